/-
  Lemmas on the way to the row. No condition beyond their own.
-/
import Derived.Test.YtifkphcaelafjaaGreatDoorQ00
set_option maxHeartbeats 25600000
set_option maxRecDepth 100000
set_option linter.unusedVariables false
set_option linter.unusedSimpArgs false
namespace Go.Proofs.YtifkphcaelafjaaGreatDoor
open Tryz
open Go.RowKit Go.Colm
theorem uW(now fin:Nat)(w:World):Calls prog 161 #[.int .u64 (now:Int),.int .u64 (fin:Int)] w λe w'=>e= .returned (.bool (decide (fin≠0/\fin<=now)))/\w'=w:=by
 go_in;by_cases h0:fin=0
 ·subst h0;go_wp2;go_ret;exact⟨aq (by simp),rfl⟩
 ·have t0:(((fin:Nat):Int)==0)=false:=by rw[Fo];omega
  by_cases h1:fin<=now
  ·go_wp2;go_ret;exact⟨aq (by simp[h0,h1]),rfl⟩
  ·go_wp2;go_ret;exact⟨aq (by simp[h0,h1]),rfl⟩
theorem rN(a b:Nat)(g c:Nat)(w:World)(ha:a<18446744073709551616)(hb:b<18446744073709551616)(hc:w.cell? ⟨g,0,none⟩=some (.int .u64 (b:Int))):
  Calls prog 175 #[.int .u64 (a:Int),.slice (some ⟨g,0,none⟩) 1 c] w λe w'=>e= .returned (.int .u64 ((min a b:Nat):Int))/\w'=w:=by
 go_in;go_wp2_with fail
 go_loop [0,6,9] (λs0 _ s9=>(s0= .int .u64 (a:Int)/\s9= .int .i64 0)\/(s0= .int .u64 ((min a b:Nat):Int)/\s9= .int .i64 1)) (λ_ _ s9=>match s9 with| .int _ m=>1-m.toNat|_=>0)
 case atStart=>exact .inl ⟨rfl,rfl⟩
 case round=>
  rcases hrel with⟨rfl,rfl⟩|⟨rfl,rfl⟩
  ·go_wp2;go_round
   case rel=>exact .inr ⟨by congr 1;split<;>omega,by go_num⟩
   case measure=>simp
  ·go_wp2;go_ret;exact⟨rfl,rfl⟩
def fe(a b Ga:Nat):Nat:=min a Ga+min b (Ga-min a Ga)
def oJ(now Gv:Nat):Nat:=if Gv=0 then 0 else fe now Gv 9223372036854775808
theorem yu(a b Ga:Nat)(w:World)(ha:a<18446744073709551616)(hb:b<18446744073709551616)(hm:Ga<18446744073709551616):
  Calls prog 101 #[.int .u64 (a:Int),.int .u64 (b:Int),.int .u64 (Ga:Int)] w λe w'=>e= .returned (.int .u64 ((fe a b Ga:Nat):Int))/\Below w.heap.size w w':=by
 go_in;go_wp2_with fail;refine(rN a Ga _ _ _ ha hm (by simp)).mono ?_;rintro e w1⟨rfl,rfl⟩;go_wp2_with fail;have e2:((Ga:Int)-((min a Ga:Nat):Int))=((Ga-min a Ga:Nat):Int):=by omega
 rw[e2];refine(rN b (Ga-min a Ga) _ _ _ hb (by omega) (by simp)).mono ?_;rintro e w2⟨rfl,rfl⟩;go_wp2;go_ret;refine⟨aH ?_,((Below.refl _ w).alloc (Fm _) _).alloc (by simp) _⟩;rw[fe];rfl
theorem DJ(now Gv:Nat)(w:World)(ha:now<18446744073709551616)(hb:Gv<18446744073709551616):
  Calls prog 47 #[.int .u64 (now:Int),.int .u64 (Gv:Int)] w λe w'=>e= .returned (.int .u64 ((oJ now Gv:Nat):Int))/\Below w.heap.size w w':=by
 go_in;by_cases h0:Gv=0
 ·subst h0;go_wp2;go_ret;exact⟨rfl,Below.refl _ _⟩
 ·have t0:(((Gv:Nat):Int)==0)=false:=by rw[Fo];omega
  go_wp2_with fail;refine(yu now Gv 9223372036854775808 _ ha hb (by decide)).mono ?_;rintro e w1⟨rfl,hw⟩;go_wp2;go_ret;refine⟨aH ?_,hw⟩;rw[oJ,if_neg h0]
open Go.FC
def bG(N:Nat->Prop)(w:World)(A:Option Addr)(l:List (List UInt8)):Prop:=
 ∀i x,l[i]? =some x->∃b off Au cu,A=some ⟨b,off,none⟩/\N b/\w.cell? ⟨b,off+i,none⟩=some (.slice Au x.length cu)/\aM w Au (ay x)/\∀a,Au=some a->N a.block
theorem bG.kept{S N:Nat->Prop}{w w':World}{A:Option Addr}{l:List (List UInt8)}(h:bG N w A l)(hk:aa S w w')(hs:∀k,N k->¬S k):bG N w' A l:=λi x hx=>by
 obtain⟨b,off,Au,cu,e,hn,hc,hr,ha⟩:=h i x hx;exact⟨b,off,Au,cu,e,hn,hk.cell hc (hs _ hn),oD hr hk λa e=>hs _ (ha a e),ha⟩
theorem bG.mono{N N':Nat->Prop}{w:World}{A:Option Addr}{l:List (List UInt8)}(h:bG N w A l)(hn:∀k,N k->N' k):bG N' w A l:=λi x hx=>by
 obtain⟨b,off,Au,cu,e,h1,hc,hr,ha⟩:=h i x hx;exact⟨b,off,Au,cu,e,hn _ h1,hc,hr,λa e=>hn _ (ha a e)⟩
theorem bG.below{N:Nat->Prop}{w w':World}{A:Option Addr}{l:List (List UInt8)}(h:bG N w A l)(hk:Below w.heap.size w w'):bG N w' A l:=h.kept (aa.below hk λ_=>False) λ_ _ h=>h
theorem zZ(A:Option Addr)(n c:Nat)(w:World)(hn:n<9223372036854775807):Calls prog 154 #[.slice A n c] w λe w'=>e= .returned (.int .i64 ((2+min n 480:Nat):Int))/\w'=w:=by
 go_in;go_wp2
 ·go_ret;exact⟨aH (by omega),rfl⟩
 ·go_ret;exact⟨aH (by omega),rfl⟩
theorem wY(N:Nat->Prop)(A:Option Addr)(c:Nat)(l:List (List UInt8))(w:World)(hl:l.length<1099511627776)(hx:∀x∈l,x.length<1099511627776)(hr:bG N w A l):
  Calls prog 153 #[.slice A l.length c,.func (.func 154) #[] #[]] w λe w'=>e= .returned (.int .i64 (cZ l:Nat))/\w'=w:=by
 have HR:=Fh hr;have HX:=Fh hx;clear hr hx;go_in;go_wp2_with fail
 go_loop [5,7,10] (λs5 _ Zx=>∃k n:Nat,k<=l.length/\Zx= .int .i64 k/\s5= .int .i64 n/\Hid (n=cZ (l.take k))) (λ_ _ Zx=>match Zx with| .int _ m=>l.length-m.toNat|_=>0)
 case atStart=>exact⟨0,0,Nat.zero_le _,rfl,rfl,Fh rfl⟩
 case round=>
  obtain⟨k,n,hk,rfl,rfl,H⟩:=hrel;by_cases FR:k<l.length
  ·obtain⟨b,off,Au,cu,rfl,_,hc,_⟩:=HR.o k l[k] (by simp[FR]);have hn:n<=482*l.length:=by
    rw[H.o];refine Nat.le_trans (xK _) ?_;rw[List.length_take];exact Nat.mul_le_mul_left _ (Nat.min_le_right _ _)
   have Kf:=HX.o l[k] (List.getElem_mem FR);obtain⟨m,hm⟩:=Fp (l[k].length);rw[<-hm]at hc Kf;have H2:Hid (n+(2+min m 480)=cZ (l.take (k+1))):=Fh (by rw[yX FR,H.o,hm]);clear hm;go_wp2_with fail;refine(zZ _ _ _ _ (by omega)).mono ?_;rintro e w1⟨rfl,rfl⟩;go_wp2;go_round
   case rel=>exact⟨k+1,n+(2+min m 480),by omega,by go_num,by go_num,H2⟩
   case measure=>simp;omega
  ·have KZ:k=l.length:=by omega
   have E:Hid (n=cZ l):=Fh (by rw[H.o,KZ,List.take_length]);go_wp2;go_ret;refine⟨aH ?_,rfl⟩;rw[E.o]
theorem rO(N:Nat->Prop)(A:Option Addr)(c:Nat)(l:List (List UInt8))(w:World)(hl:l.length<1099511627776)(hx:∀x∈l,x.length<1099511627776)(hr:bG N w A l):
  Calls prog 87 #[.slice A l.length c] w λe w'=>e= .returned (.tuple #[.int .i64 ((bS l).1:Nat),.int .i64 (bS l).2])/\w'=w:=by
 have HR:=Fh hr;have HX:=Fh hx;clear hr hx;go_in;by_cases h0:l.length<1
 ·have E:Hid (bS l=(0,2)):=Fh (by rw[bS,if_pos (.inl h0)]);go_wp2;go_ret2;rw[E.o];exact⟨rfl,rfl⟩
 ·by_cases h1:16<l.length
  ·have E:Hid (bS l=(0,2)):=Fh (by rw[bS,if_pos (.inr h1)]);go_wp2;go_ret2;rw[E.o];exact⟨rfl,rfl⟩
  ·have hs:=xK l;have E:Hid (bS l=if 480<2+cZ l then(0,22)else(2+cZ l,0)):=Fh (by rw[bS,if_neg (by omega)]);go_wp2_with fail;refine(wY N A c l _ hl HX.o HR.o).mono ?_;rintro e w1⟨rfl,rfl⟩;by_cases h2:480<2+cZ l
   ·go_wp2;go_ret2;rw[E.o,if_pos h2];exact⟨rfl,rfl⟩
   ·go_wp2;go_ret2;rw[E.o,if_neg h2];exact⟨rfl,rfl⟩
def jG(B:Nat)(w:World)(v:Value)(us:List Value)(l:List (List UInt8)):Prop:=
 us.length=l.length/\(∃b,v= .slice (some ⟨b,0,none⟩) l.length l.length/\B<=b/\Whole w b 73 us.toArray)/\∀(i:Nat) (u:Value) (x:List UInt8),us[i]? =some u->l[i]? =some x->w.ownsRow B 5 1 u x.length (ay x)
theorem jG.at_{B:Nat}{w:World}{v:Value}{us:List Value}{l:List (List UInt8)}(h:jG B w v us l):∃A,v= .slice A l.length l.length/\bG (λk=>B<=k/\k<w.heap.size) w A l:=by
 obtain⟨hl,⟨b,rfl,hb,hw⟩,hr⟩:=h;refine⟨_,rfl,λi x hx=> ?_⟩;have hi:i<us.length:=by
  have:=(List.getElem?_eq_some_iff.1 hx).1;omega
 have ho:=hr i us[i] x (by simp[hi]) hx;obtain⟨A',c',e,Gh⟩:=eW ho;refine⟨b,0,A',c',rfl,⟨hb,hw.lt⟩,?_,Gh,λa ha=> ?_⟩
 ·rw[hw.cell,<-e];simp[hi]
 ·subst ha;exact aF ho (k:=a.block) (by rw[e];rfl)
theorem Ac(N:Nat->Prop)(A:Option Addr)(c:Nat)(l:List (List UInt8))(w:World)(hl:l.length<4294967296)(hx:∀x∈l,x.length<1099511627776)(hr:bG N w A l):
  Calls prog 289 #[.slice A l.length c] w λe w'=>∃v us,e= .returned v/\jG w.heap.size w' v us l/\Below w.heap.size w w':=by
 obtain⟨i0,hi,G9,G8,G7⟩:=info_parts Kc;have Ks:=run_make w 41 73 i0 (.slice none 0 0) underlying41 hi G9 .i64 .i64 l.length l.length (by omega) (by omega) (by rw[G7];omega) (by omega);rw[G8,show(Value.slice none 0 0).cells= #[.slice none 0 0]from rfl,<-Lib.cellsOfV_nil]at Ks;simp only [Int.toNat_natCast,Nat.mul_one]at Ks;obtain⟨w1,FJ⟩:=Fp (w.alloc (.cells (Lib.cellsOfV [] l.length) 73));rw[<-FJ]at Ks;have h1:Whole w1 w.heap.size 73 (Lib.cellsOfV [] l.length):=by rw[FJ];exact Whole.new _ _ _
 have FN:Below w.heap.size w w1:=by rw[FJ];exact(Below.refl _ _).alloc (Fm _) _
 have HR:=Fh hr;have HX:=Fh hx;have H1:=Fh h1;have GH:=Fh FN;clear hr hx h1 FN FJ;go_in;go_wp2_with fail
 go_loopw [4,5,11] (λ_ _ La wr=>∃(k:Nat) (us:List Value),k<=l.length/\La= .int .i64 k/\us.length=k/\Hid (Whole wr w.heap.size 73 (Lib.cellsOfV us l.length))/\Hid (Below w.heap.size w wr)/\Hid (∀(i:Nat) (u:Value) (x:List UInt8),us[i]? =some u->l[i]? =some x->wr.ownsRow w.heap.size 5 1 u x.length (ay x))) (λ_ _ La wr=>match La with| .int _ m=>l.length-m.toNat|_=>0)
 case atStart=>exact⟨0,[],Nat.zero_le _,rfl,rfl,H1,GH,Fh (λi u x h=>by simp at h)⟩
 case round=>
  obtain⟨k,us,hk,rfl,Rf,HW,HB,HO⟩:=hrel;by_cases FR:k<l.length
  ·have Gc:=HR.o.below HB.o;obtain⟨b,off,Au,cu,rfl,_,hc,T6,_⟩:=Gc k l[k] (by simp[FR]);have hlx:=HX.o l[k] (List.getElem_mem FR);have HRU:=Fh T6;clear Gc T6;obtain⟨x,TJ⟩:=Fp (l[k]);rw[<-TJ]at hc HRU hlx;have HX0:=Fh TJ;clear TJ;go_wp2_with fail;refine(kT _ _ _ _ hlx HRU.o).mono ?_;rintro e w2⟨u,rfl,hu,FF⟩;have FL:Whole w2 w.heap.size 73 (Lib.cellsOfV us l.length):=(FF.block _ HW.o.lt).trans HW.o;have KQ:w2.cell? ⟨w.heap.size,k,none⟩=some (.slice none 0 0):=by
    rw[FL.cell,<-Rf];exact Lib.cellsOfV_next (by omega)
   have IT:=FL.frozen k;have hne:u.ownBlock≠some w.heap.size:=Lib.ownBlock_ne hu FL (by decide);have F8:w.heap.size<=wr.heap.size:=HB.o.size;obtain⟨Au2,cu2,eu,_⟩:=eW hu;have HU:=Fh hu;have Gx:=Fh FF;have VB:=Fh FL;have HNE:=Fh hne;have EU:=Fh eu;rw[eu];clear hu FF FL hne eu;go_wp2;go_roundw
   case rel=>
    refine⟨k+1,us++ [u],by omega,by go_num,by simp[Rf],?_,?_,?_⟩
    ·rw[<-EU.o];have h:=VB.o.put k u;rw[<-Rf,Lib.cellsOfV_set (by omega),Rf]at h;exact Fh h
    ·exact Fh (aa.F1 (S:=λi=>i=w.heap.size) ((((aa.below HB.o (λi=>i=w.heap.size)).trans (aa.below Gx.o (λi=>i=w.heap.size)))).setCell (p:=⟨w.heap.size,k,none⟩) (.inl rfl) _) (Fm _) (λi hi e=>by omega))
    ·refine Fh λi u' x' hu' GD=> ?_;have Jc:aa (λi=>i=w.heap.size) w2 (w2.setCell ⟨w.heap.size,k,none⟩ (.slice Au2 x.length cu2)):=(aa.refl (λi=>i=w.heap.size) w2).setCell (p:=⟨w.heap.size,k,none⟩) (.inl rfl) _;rcases Nat.lt_or_ge i k with VP|VP
     ·rw[List.getElem?_append_left (by omega)]at hu';have h1:=HO.o i u' x' hu' GD;have hne':u'.ownBlock≠some w.heap.size:=Lib.ownBlock_ne h1 HW.o (by decide);have h2:w2.ownsRow w.heap.size 5 1 u' x'.length (ay x'):=aj h1 (aa.below Gx.o λ_=>False) (λ_ _ h=>h);exact aj h2 Jc (λj hj e=>hne' (by rw[hj,e]))
     ·have UF:i=k:=by
       have:=(List.getElem?_eq_some_iff.1 hu').1;simp at this;omega
      subst UF;rw[List.getElem?_append_right (by omega),Rf,Nat.sub_self,List.getElem?_cons_zero,Option.some.injEq]at hu';subst hu';rw[Fl FR,Option.some.injEq]at GD;subst GD;rw[<-HX0.o];exact aj (aS HU.o F8) Jc (λj hj e=>HNE.o (by rw[hj,e]))
   case measure=>simp;omega
  ·have KZ:k=l.length:=by omega
   go_wp2;go_ret;refine⟨_,us,rfl,⟨by omega,⟨w.heap.size,rfl,Fm _,?_⟩,HO.o⟩,HB.o⟩;have h:=HW.o;rw[<-KZ,<-Rf,Lib.cellsOfV_full]at h;exact h
end Go.Proofs.YtifkphcaelafjaaGreatDoor
