/-
  Lemmas on the way to the row. No condition beyond their own.
-/
import Derived.ChangeSame
import Derived.Deep.Slices
import Derived.Handed
import Derived.HandedShaped
import Derived.LaidSub
import Derived.MakeChecks
import Derived.Shelf.Vars
import Derived.Test.YtifkphcaelafjaaGreatDoorQ15
import Derived.Test.YtifkphcaelafjaaGreatDoorQ20
set_option maxHeartbeats 25600000
set_option maxRecDepth 100000
set_option linter.unusedVariables false
set_option linter.unusedSimpArgs false
namespace Go.Proofs.YtifkphcaelafjaaGreatDoor
open Tryz
open Go.RowKit Go.Colm Go.FC Go.Maps Go.FP Go.Fy Go.Fz
theorem sF{w:World}{B B':Nat}{e:TypeId}{size n:Nat}{v:Value}{xs:List Value}(h:w.ownsRow B' e size v n xs)(hB:B<=B'):w.ownsRow B e size v n xs:=⟨h.1,h.2.imp id λ⟨g,cap,Kb,q1,q2,q3⟩=>⟨g,cap,Kb,q1,Nat.le_trans hB q2,q3⟩⟩
theorem bW.S6{B B':Nat}{w:World}{v:Value}{us:List Value}{l:List (List UInt8)}(h:bW B' w v us l)(hB:B<=B'):bW B w v us l:=⟨h.1,sF h.2.1 hB,λi u x h1 h2=>sF (h.2.2 i u x h1 h2) hB⟩
section
variable{O:av}{μ:Mm}{w:World}{cb bk:Nat}
theorem xC(h:ao O μ w):Calls prog 56 #[.pointer (some ⟨O.mb,0,none⟩),.int .i64 (-1)] w λe w'=>e= .returned (.tuple #[.slice none 0 0,.int .i64 2])/\MG O w μ w':=by
 have HC:=Fh (aD h);have G5:=h.cf;have z:¬((μ.Fq:Int)=0):=by omega
 have zz:¬(μ.Fq=0):=by omega
 have z1:decide ((-1:Int)<0)=true:=by decide
 have FE:=Fh (MG.refl h);clear h G5;go_in;go_wp2_with fail;refine HC.o.mono ?_;rintro e w1⟨rfl,hb⟩;have FA:=Fh (FE.o.below hb);clear hb;go_wp2;go_ret2;exact⟨rfl,FA.o⟩
theorem xD(h:dt cb bk O μ 0 w):Calls prog 19 #[.pointer (some ⟨cb,0,none⟩),.int .i64 (-1)] w λe w'=>e= .returned (.tuple #[.slice none 0 0,.int .i64 2])/\MG O w μ w':=by
 have HF:=Fh (fw h);have HS:=Fh (xC h.m);obtain⟨x0,x1⟩:=h.cc;clear h;go_in;go_wp2_with fail;refine HF.o.mono ?_;rintro e w2⟨rfl,rfl⟩;go_wp2_with fail;refine HS.o.mono ?_;rintro e w3⟨rfl,hg⟩;go_wp2;go_ret2;exact⟨rfl,hg⟩
theorem mC(h:dt cb bk O μ 0 w)(hm:jL O w)(kd:Int)(nm:ByteArray)(hl:nm.size<=100000)(ty:Nat)(ht:ty<65536)(A:Option Addr)(c:Nat)(rs:List (List UInt8))(hr:bG (λ_=>True) w A rs)(PC:rs.length<1099511627776)(hrx:∀x∈rs,x.length<1099511627776)
  (lf n:Nat) (Xc:lf<18446744073709551616) (hn:n<18446744073709551616) (sv:Value) (hw cd:Int) (q:(List (List UInt8)×Int×Bool)×Mm) (hv:bh kd nm.data.toList ty rs lf n μ=some q):
  Calls prog 24 #[.pointer (some ⟨cb,0,none⟩),.agg #[.int .i64 kd,.string nm,.int .u16 (ty:Int),.slice A rs.length c,.int .u64 (lf:Int),.int .u64 (n:Int),sv,.int .i64 hw,.int .i64 cd]] w λe w'=>
   ∃v us,e= .returned (.tuple #[v,.int .i64 q.1.2.1,.bool q.1.2.2])/\bW w.heap.size w' v us q.1.1/\MG O w q.2 w':=by
 obtain⟨w1,FJ⟩:=Fp (w.alloc (.cells #[.int .i64 kd,.string nm,.int .u16 (ty:Int),.slice A rs.length c,.int .u64 (lf:Int),.int .u64 (n:Int),sv,.int .i64 hw,.int .i64 cd] 43));have ka:Below w.heap.size w w1:=by rw[FJ];exact(Below.refl _ _).alloc (Fm _) _
 have ho:Whole w1 w.heap.size 43 #[.int .i64 kd,.string nm,.int .u16 (ty:Int),.slice A rs.length c,.int .u64 (lf:Int),.int .u64 (n:Int),sv,.int .i64 hw,.int .i64 cd]:=by rw[FJ];exact Whole.new _ _ _
 have h1:=h.below ka;have IZ:=hm.kept (aa.below ka (au O));have FE:Hid (MG O w μ w1):=Fh ((MG.refl h.m).below ka);have Gp:=hr.below ka;have x0:=ho.cell 0;have x1:=ho.cell 1;have x2:=ho.cell 2;have x3:=ho.cell 3;have x4:=ho.cell 4;have x5:=ho.cell 5;have IA:=Fh ka.size;clear ho hr h hm;unfold bh at hv;by_cases k1:kd=1
 ·rw[if_pos k1]at hv;obtain⟨r,F6,F0⟩:=Fi hv;have hq:=Fk F0;have HP:=Fh (yF h1 IZ nm hl ty ht (λ_=>True) A c rs Gp PC hrx lf Xc r F6);obtain⟨⟨g,er⟩,m'⟩:=r;have HQ:=Fh hq;obtain⟨gl,Yn⟩:=Fp g.length;have HGL:=Fh Yn;clear hv F6 F0 hq h1 IZ Gp Yn ka;subst k1;go_in;go_upto_region 1 with fail;rw[<-FJ];clear FJ;go_wp2_with fail;refine HP.o.mono ?_;rintro e w2⟨vk,rfl,SO,hg⟩;obtain⟨Ak,ck,rfl⟩:=aw SO;have FK:=Fh (FE.o.trans hg);have hlen:dK w1.heap.size w2 (.slice Ak g.length ck) g:=SO;clear SO hlen hg;rw[<-HGL.o];by_cases h0:0<gl
  all_goals
   go_wp2;go_ret3;rw[<-HQ.o];refine⟨_,[],?_,bW.SL _ _,FK.o⟩;rw[<-HGL.o];simp[h0]
 rw[if_neg k1]at hv;have z1:(kd==1)=false:=by simpa using k1
 by_cases k4:kd=4
 ·rw[if_pos k4]at hv;obtain⟨r,F6,F0⟩:=Fi hv;have hq:=Fk F0;have HP:=Fh (yD h1 IZ nm hl ty ht r F6);have HQ:=Fh hq;clear hv F6 F0 hq h1 IZ Gp ka;subst k4;go_in;go_upto_region 1 with fail;rw[<-FJ];clear FJ;go_wp2_with fail;refine HP.o.mono ?_;rintro e w2⟨rfl,hg⟩;have FK:=Fh (FE.o.trans hg);clear hg;go_wp2;go_ret3;rw[<-HQ.o];exact⟨_,[],rfl,bW.SL _ _,FK.o⟩
 rw[if_neg k4]at hv;have z4:(kd==4)=false:=by simpa using k4
 by_cases k5:kd=5
 ·rw[if_pos k5]at hv;obtain⟨r,F6,F0⟩:=Fi hv;have hq:=Fk F0;have HP:=Fh (pP h1 n hn r.1 r.2 F6);have HQ:=Fh hq;clear hv F6 F0 hq h1 IZ Gp ka;subst k5;go_in;go_upto_region 1 with fail;rw[<-FJ];clear FJ;go_wp2_with fail;refine HP.o.mono ?_;rintro e w2⟨vk,rfl,SO,hg⟩;have FK:=Fh (FE.o.trans hg);clear hg SO;go_wp2;go_ret3;rw[<-HQ.o];exact⟨_,[],rfl,bW.SL _ _,FK.o⟩
 rw[if_neg k5]at hv;have z5:(kd==5)=false:=by simpa using k5
 by_cases k6:kd=6
 ·rw[if_pos k6]at hv;have HM:=Fh (λW=>AI n W hn);by_cases k7:n=18446744073709551615
  ·rw[if_pos k7]at hv;have hq:=Fk hv;have HQ:=Fh hq;have HS:=Fh (xD h1);have W8:si n= -1:=by unfold si;rw[if_pos k7]
   rw[W8]at HM;clear hv hq h1 IZ Gp ka W8 k7;subst k6;go_in;go_upto_region 1 with fail;rw[<-FJ];clear FJ;go_wp2_with fail;refine(HM.o _).mono ?_;rintro e w2⟨rfl,rfl⟩;go_wp2_with fail;refine HS.o.mono ?_;rintro e w3⟨rfl,hg⟩;have FK:=Fh (FE.o.trans hg);clear hg;go_wp2;go_ret3;rw[<-HQ.o];exact⟨_,[],rfl,bW.SL _ _,FK.o⟩
  ·rw[if_neg k7]at hv;obtain⟨r,F6,F0⟩:=Fi hv;have hq:=Fk F0;have HP:=Fh (AB h1 (n%1000) (by omega) r.1 r.2 F6);have HQ:=Fh hq;have W8:si n=((n%1000:Nat):Int):=by unfold si;rw[if_neg k7]
   rw[W8]at HM;obtain⟨mo,VQ⟩:=Fp (n%1000);rw[<-VQ]at HM HP;clear hv F6 F0 hq h1 IZ Gp ka W8 VQ k7;subst k6;go_in;go_upto_region 1 with fail;rw[<-FJ];clear FJ;go_wp2_with fail;refine(HM.o _).mono ?_;rintro e w2⟨rfl,rfl⟩;go_wp2_with fail;refine HP.o.mono ?_;rintro e w3⟨vk,rfl,SO,hg⟩;have FK:=Fh (FE.o.trans hg);clear hg SO;go_wp2;go_ret3;rw[<-HQ.o];exact⟨_,[],rfl,bW.SL _ _,FK.o⟩
 rw[if_neg k6]at hv;have z6:(kd==6)=false:=by simpa using k6
 obtain⟨r,F6,F0⟩:=Fi hv;have hq:=Fk F0;have HP:=Fh (ot h1 IZ nm hl ty ht r F6);have HQ:=Fh hq;clear hv F6 F0 hq h1 IZ Gp ka k1 k4 k5 k6;go_in;go_upto_region 1 with fail;rw[<-FJ];clear FJ;go_wp2_with fail;refine HP.o.mono ?_;rintro e w2⟨v,us,rfl,GU,hg⟩;have FK:=Fh (FE.o.trans hg);have HI:=Fh GU;clear hg GU;go_wp2;go_ret3;rw[<-HQ.o];exact⟨_,us,rfl,HI.o.S6 IA.o,FK.o⟩
end
end Go.Proofs.YtifkphcaelafjaaGreatDoor
namespace Go.Scrp
open Go.RowKit Go.Colm Go.ChangeShapes Go.WideShapes
structure Hd where
 kind:Int
 name:List UInt8
 typ:Nat
 recs:List (List UInt8)
 Gv:Nat
 n:Nat
 how:Int
 code:Int
inductive Opd where
 |mk (h:Hd) (steps:List Opd):Opd
def Hd.Ok(h:Hd):Prop:=(-9223372036854775808<=h.kind/\h.kind<=9223372036854775807)/\h.typ<65536/\h.Gv<18446744073709551616/\h.n<18446744073709551616/\(-9223372036854775808<=h.how/\h.how<=9223372036854775807)/\(-9223372036854775808<=h.code/\h.code<=9223372036854775807)
mutual
def cntS:Opd->Nat
 | .mk _ l=>cntL l+1
def cntL:List Opd->Nat
 | []=>0
 |s::r=>cntS s+cntL r
end
def AQ(N:Nat->Prop)(w:World)(A:Option Addr)(vs:List Value):Prop:=∀i v,vs[i]? =some v->∃b off,A=some ⟨b,off,none⟩/\N b/\w.cell? ⟨b,off+i,none⟩=some v
theorem AQ.row{N:Nat->Prop}{w:World}{A:Option Addr}{vs:List Value}(h:AQ N w A vs):aM w A vs:=λi v hv=>by
 obtain⟨b,off,e,_,hc⟩:=h i v hv;exact⟨b,off,e,hc⟩
theorem AQ.of{w:World}{A:Option Addr}{vs:List Value}(h:aM w A vs):AQ (λ_=>True) w A vs:=λi v hv=>by
 obtain⟨b,off,e,hc⟩:=h i v hv;exact⟨b,off,e,trivial,hc⟩
def jO(N:Nat->Prop)(w:World)(A:Option Addr)(l:List (List UInt8)):Prop:=
 ∀i (hi:i<l.length),∃b off A' cp,A=some ⟨b,off,none⟩/\N b/\w.cell? ⟨b,off+i,none⟩=some (.slice A' l[i].length cp)/\(l[i].length<=cp/\cp<=maxLen)/\AQ N w A' (ay l[i])
theorem jO.nil(N:Nat->Prop)(w:World)(A:Option Addr):jO N w A []:=λi hi=>by simp at hi
mutual
def qv(N:Nat->Prop)(w:World)(b off:Nat):Opd->Prop
 | .mk h l=>h.Ok/\N b/\w.cell? ⟨b,off,none⟩=some (.int .i64 h.kind)/\w.cell? ⟨b,off+1,none⟩=some (.string ⟨h.name.toArray⟩)/\w.cell? ⟨b,off+2,none⟩=some (.int .u16 (h.typ:Int))/\
  (∃A cp,w.cell? ⟨b,off+3,none⟩=some (.slice A h.recs.length cp)/\(h.recs.length<=cp/\cp<=maxLen)/\jO N w A h.recs)/\
  w.cell? ⟨b,off+4,none⟩=some (.int .u64 (h.Gv:Int))/\w.cell? ⟨b,off+5,none⟩=some (.int .u64 (h.n:Int))/\
  (∃A cp,w.cell? ⟨b,off+6,none⟩=some (.slice A l.length cp)/\(l.length<=cp/\cp<=maxLen)/\cj N w A 0 l)/\
  w.cell? ⟨b,off+7,none⟩=some (.int .i64 h.how)/\w.cell? ⟨b,off+8,none⟩=some (.int .i64 h.code)
def cj(N:Nat->Prop)(w:World)(A:Option Addr)(i:Nat):List Opd->Prop
 | []=>True
 |o::r=>(∃b off,A=some ⟨b,off,none⟩/\qv N w b (off+i*9) o)/\cj N w A (i+1) r
end
theorem qw{N:Nat->Prop}{w:World}{A:Option Addr}{i:Nat}:cj N w A i []:=by rw[cj];trivial
theorem jP{N:Nat->Prop}{w:World}{A:Option Addr}{i:Nat}{o:Opd}{r:List Opd}:cj N w A i (o::r)↔(∃b off,A=some ⟨b,off,none⟩/\qv N w b (off+i*9) o)/\cj N w A (i+1) r:=by rw[cj]
theorem qx{N:Nat->Prop}{w:World}{b off:Nat}{h:Hd}{l:List Opd}:qv N w b off (.mk h l)↔h.Ok/\N b/\w.cell? ⟨b,off,none⟩=some (.int .i64 h.kind)/\w.cell? ⟨b,off+1,none⟩=some (.string ⟨h.name.toArray⟩)/\w.cell? ⟨b,off+2,none⟩=some (.int .u16 (h.typ:Int))/\
  (∃A cp,w.cell? ⟨b,off+3,none⟩=some (.slice A h.recs.length cp)/\(h.recs.length<=cp/\cp<=maxLen)/\jO N w A h.recs)/\
  w.cell? ⟨b,off+4,none⟩=some (.int .u64 (h.Gv:Int))/\w.cell? ⟨b,off+5,none⟩=some (.int .u64 (h.n:Int))/\
  (∃A cp,w.cell? ⟨b,off+6,none⟩=some (.slice A l.length cp)/\(l.length<=cp/\cp<=maxLen)/\cj N w A 0 l)/\
  w.cell? ⟨b,off+7,none⟩=some (.int .i64 h.how)/\w.cell? ⟨b,off+8,none⟩=some (.int .i64 h.code):=by rw[qv]
theorem cj.get{N:Nat->Prop}{w:World}{A:Option Addr}:∀(l:List Opd) (i k:Nat) (hk:k<l.length),cj N w A i l->∃b off,A=some ⟨b,off,none⟩/\qv N w b (off+(i+k)*9) l[k]
 | [],_,_,hk,_=>absurd hk (by simp)
 |s::r,i,0,_,h=>(jP.1 h).1
 |s::r,i,k+1,hk,h=>by
  have g:=cj.get r (i+1) k (by simpa using hk) (jP.1 h).2;rw[show i+(k+1)=i+1+k by omega];simpa using g
theorem cj.Vp{N:Nat->Prop}{w:World}{A:Option Addr}:∀(l:List Opd) (i:Nat),(∀k (hk:k<l.length),∃b off,A=some ⟨b,off,none⟩/\qv N w b (off+(i+k)*9) l[k])->cj N w A i l
 | [],_,_=>qw
 |s::r,i,h=>jP.2 ⟨h 0 (by simp),cj.Vp r (i+1) λk hk=>by
   have:=h (k+1) (by simpa using hk);rw[show i+1+k=i+(k+1)by omega];simpa using this⟩
theorem jQ{α:Type}{n:Nat}{p:Nat->α->Prop}(h:∀i,i<n->∃x,p i x):∃l:List α,l.length=n/\∀i (hi:i<l.length),p i l[i]:=by
 induction n with
 |zero=>exact⟨[],rfl,λi hi=>by simp at hi⟩
 |succ n ih=>
  obtain⟨l,hl,hp⟩:=ih λi hi=>h i (by omega);obtain⟨x,hx⟩:=h n (by omega);refine⟨l++ [x],by simp[hl],λi hi=> ?_⟩;by_cases e:i<l.length
  ·rw[List.getElem_append_left e];exact hp i e
  ·have:i=n:=by
    simp at hi;omega
   subst this;rw[List.getElem_append_right (by omega)];simpa[hl]using hx
theorem xE{n:Int}(h:(Lit.int .i64 n).wf=true): -9223372036854775808<=n/\n<=9223372036854775807:=by
 have e1:IntKind.i64.min= -9223372036854775808:=by decide
 have e2:IntKind.i64.max=9223372036854775807:=by decide
 rw[Lit.wf,Bool.and_eq_true,decide_eq_true_eq,decide_eq_true_eq,e1,e2]at h;exact h
theorem Dd{n:Int}(h:(Lit.int .u64 n).wf=true):∃u:Nat,n=(u:Int)/\u<18446744073709551616:=by
 have e1:IntKind.u64.min=0:=by decide
 have e2:IntKind.u64.max=18446744073709551615:=by decide
 rw[Lit.wf,Bool.and_eq_true,decide_eq_true_eq,decide_eq_true_eq,e1,e2]at h;exact⟨n.toNat,by omega,by omega⟩
theorem ER{n:Int}(h:(Lit.int .u16 n).wf=true):∃u:Nat,n=(u:Int)/\u<65536:=by
 have e1:IntKind.u16.min=0:=by decide
 have e2:IntKind.u16.max=65535:=by decide
 rw[Lit.wf,Bool.and_eq_true,decide_eq_true_eq,decide_eq_true_eq,e1,e2]at h;exact⟨n.toNat,by omega,by omega⟩
mutual
def Ry:Opd->Prop
 | .mk h l=>h.name.length<=maxLen/\namL l
def namL:List Opd->Prop
 | []=>True
 |o::r=>Ry o/\namL r
end
theorem Qg:namL []:=by rw[namL];trivial
theorem nJ{o:Opd}{r:List Opd}:namL (o::r)↔Ry o/\namL r:=by rw[namL]
theorem yR{h:Hd}{l:List Opd}:Ry (.mk h l)↔h.name.length<=maxLen/\namL l:=by rw[Ry]
theorem M8:∀(l:List Opd) (k:Nat) (hk:k<l.length),namL l->Ry l[k]
 |o::r,0,_,h=>(nJ.1 h).1
 |o::r,k+1,hk,h=>M8 r k (by simpa using hk) (nJ.1 h).2
theorem Se:∀(l:List Opd),(∀k (hk:k<l.length),Ry l[k])->namL l
 | [],_=>Qg
 |o::r,h=>nJ.2 ⟨h 0 (by simp),Se r λk hk=>h (k+1) (by simpa using hk)⟩
section
variable{H:Type}{enc:TypeId×Value->H}{P:Program}{w:World}{base:Nat}{spare:Nat->Bool}{held:Bool}
theorem De{T U:TypeId}(hT:P.underlying T=some (.slice U))(hU:P.underlying U=some (.int .u8))(cU:P.cellsOf U=1){fuel:Nat}{cs:List Value}{x:DataW H×List MemPlace}(h:DataW.trod enc P w base spare held fuel T cs=some x):
  ∃(A:Option Addr) (l:List UInt8) (cap:Nat),cs= [.slice A l.length cap]/\l.length<=cap/\cap<=maxLen/\aM w A (ay l):=by
 rcases DataW.trod_slice hT h with⟨e,_⟩|⟨a,len,cap,elems,rest,m,_,rfl,_⟩
 ·exact⟨none,[],0,e,by simp,by unfold maxLen;omega,aM.nil _ _⟩
 ·obtain⟨l,rfl,h1,h2,h3⟩:=Go.Colm.wQ hT hU cU h;exact⟨_,l,cap,rfl,h1,h2,h3⟩
theorem AR{TT T U:TypeId}(ht:P.underlying TT=some (.slice T))(hT:P.underlying T=some (.slice U))(hU:P.underlying U=some (.int .u8))(cT:P.cellsOf T=1)(cU:P.cellsOf U=1){fuel:Nat}{cs:List Value}{x:DataW H×List MemPlace}
  (h:DataW.trod enc P w base spare held fuel TT cs=some x):
  ∃(A:Option Addr) (l:List (List UInt8)) (cap:Nat),cs= [.slice A l.length cap]/\l.length<=cap/\cap<=maxLen/\jO (λ_=>True) w A l:=by
 rcases DataW.trod_slice ht h with⟨e,_⟩|⟨a,len,cap,elems,rest,m,_,rfl,_,_,hl,hm,hlen,hel,_,_⟩
 ·exact⟨none,[],0,e,by simp,by unfold maxLen;omega,jO.nil _ _ _⟩
 ·have key:∀i,i<len->∃l:List UInt8,∃b off Au cu,(some a:Option Addr)=some ⟨b,off,none⟩/\w.cell? ⟨b,off+i,none⟩=some (.slice Au l.length cu)/\(l.length<=cu/\cu<=maxLen)/\aM w Au (ay l):=by
   intro i hi;have hb:=hel i hi;rw[Fl (by omega)]at hb;obtain⟨cs',GN,KQ⟩:=Fi hb;rw[cT]at GN;obtain⟨_,Pr,hcell⟩:=World.cells?_some GN;obtain⟨b,off,spot⟩:=a;have Vq:spot=none:=by
    have FM:=hel 0 (by omega);rw[Fl (by omega)]at FM;obtain⟨ds,Ub,_⟩:=Fi FM;rw[cT]at Ub;obtain⟨_,hdl,hdc⟩:=World.cells?_some Ub;have h00:=hdc 0 (by omega);rw[Fl (by omega)]at h00;simpa[Addr.add]using World.cell?_spot h00
   subst Vq;obtain⟨Au,l,cu,rfl,h1,h2,h4⟩:=De hT hU cU KQ;have MO:=hcell 0 (by simp);refine⟨l,b,off,Au,cu,rfl,?_,⟨h1,h2⟩,h4⟩;by_cases Px:i=0
   ·subst Px;simpa[Addr.add]using MO
   ·simpa[Addr.add,Px]using MO
  obtain⟨ll,rfl,hk⟩:=jQ key;refine⟨some a,ll,cap,rfl,hl,hm,λi hi=> ?_⟩;obtain⟨b,off,Au,cu,e,h1,h2,h3⟩:=hk i hi;exact⟨b,off,Au,cu,e,trivial,h1,h2,AQ.of h3⟩
theorem Df{TS T I K SS U16 RR R U8 U64:TypeId}{f0 f1 f2 f3 f4 f5 f6 f7 g0 g1:Field}(ht:P.underlying TS=some (.slice T))(hT:P.underlying T=some (.struct #[f0,f1,f2,f3,f4,f5,f6,f7]))(hK:P.underlying K=some (.struct #[g0,g1]))
  (hI:P.underlying I=some (.int .i64)) (hSS:P.underlying SS=some .string) (hU16:P.underlying U16=some (.int .u16)) (XR:P.underlying RR=some (.slice R)) (hR:P.underlying R=some (.slice U8)) (hU8:P.underlying U8=some (.int .u8)) (hU64:P.underlying U64=some (.int .u64))
  (h0:f0.type=I/\f0.offset=0) (h1:f1.type=K/\f1.offset=1) (h2:f2.type=RR/\f2.offset=3) (h3:f3.type=U64/\f3.offset=4) (h4:f4.type=U64/\f4.offset=5) (h5:f5.type=TS/\f5.offset=6) (h6:f6.type=I/\f6.offset=7) (h7:f7.type=I/\f7.offset=8)
  (k0:g0.type=SS/\g0.offset=0) (k1:g1.type=U16/\g1.offset=1)
  (cT:P.cellsOf T=9) (cK:P.cellsOf K=2) (cI:P.cellsOf I=1) (cS:P.cellsOf TS=1) (cSS:P.cellsOf SS=1) (cU16:P.cellsOf U16=1) (cRR:P.cellsOf RR=1) (cR:P.cellsOf R=1) (cU8:P.cellsOf U8=1) (cU64:P.cellsOf U64=1):
  ∀(n fuel:Nat) (cs:List Value) (x:DataW H×List MemPlace),fuel<n->DataW.trod enc P w base spare held fuel TS cs=some x->
   ∃(A:Option Addr) (l:List Opd) (cap:Nat),cs= [.slice A l.length cap]/\l.length<=cap/\cap<=maxLen/\cj (λ_=>True) w A 0 l/\namL l
 |0,_,_,_,h,_=>absurd h (by omega)
 |n+1,fuel,cs,x,hf,h=>by
  rcases DataW.trod_slice ht h with⟨e,_⟩|⟨a,len,cap,elems,rest,m,e,rfl,_,_,hl,hm,hlen,hel,_,_⟩
  ·exact⟨none,[],0,e,by simp,by unfold maxLen;omega,qw,Qg⟩
  ·have key:∀i,i<len->∃s:Opd,Ry s/\∃b off,(some a:Option Addr)=some ⟨b,off,none⟩/\qv (λ_=>True) w b (off+i*9) s:=by
    intro i hi;have hb:=hel i hi;rw[Fl (by omega)]at hb;obtain⟨cs',GN,KQ⟩:=Fi hb;rw[cT]at GN;obtain⟨_,O2,hcell⟩:=World.cells?_some GN
    match cs',O2 with
    | [c0,c1,c2,c3,c4,c5,c6,c7,c8],_=>
     obtain⟨b,off,spot⟩:=a;have Vq:spot=none:=by
      have FM:=hel 0 (by omega);rw[Fl (by omega)]at FM;obtain⟨ds,Ub,_⟩:=Fi FM;rw[cT]at Ub;obtain⟨_,hdl,hdc⟩:=World.cells?_some Ub;have h00:=hdc 0 (by omega);rw[Fl (by omega)]at h00;simpa[Addr.add]using World.cell?_spot h00
     subst Vq;obtain⟨xs,k,ek,_,_,Pc,YD⟩:=DataW.trod_struct hT KQ
     match xs,Pc with
     | [y0,y1,y2,y3,y4,y5,y6,y7],_=>
      have p0:=YD 0 f0 rfl;have p1:=YD 1 f1 rfl;have p2:=YD 2 f2 rfl;have p3:=YD 3 f3 rfl;have p4:=YD 4 f4 rfl;have p5:=YD 5 f5 rfl;have p6:=YD 6 f6 rfl;have p7:=YD 7 f7 rfl;rw[h0.1,h0.2,cI]at p0;rw[h1.1,h1.2,cK]at p1;rw[h2.1,h2.2,cRR]at p2;rw[h3.1,h3.2,cU64]at p3;rw[h4.1,h4.2,cU64]at p4;rw[h5.1,h5.2,cS]at p5;rw[h6.1,h6.2,cI]at p6;rw[h7.1,h7.2,cI]at p7;simp at p0 p1 p2 p3 p4 p5 p6 p7;obtain⟨n0,e0,_,w0⟩:=DataW.trod_int hI p0;obtain⟨zs,k',ek',_,_,hzl,hfz⟩:=DataW.trod_struct hK p1
      match zs,hzl with
      | [z0,z1],_=>
       have r0:=hfz 0 g0 rfl;have r1:=hfz 1 g1 rfl;rw[k0.1,k0.2,cSS]at r0;rw[k1.1,k1.2,cU16]at r1;simp at r0 r1;obtain⟨nm,e1,_,Xj⟩:=DataW.trod_string hSS r0;obtain⟨ty,e2,_,w2⟩:=DataW.trod_int hU16 r1;obtain⟨RA,rl,rc,e3,Gp,Gc,Jq⟩:=AR XR hR hU8 cR cU8 p2;obtain⟨lf,e4,_,w4⟩:=DataW.trod_int hU64 p3;obtain⟨nn,e5,_,w5⟩:=DataW.trod_int hU64 p4;obtain⟨A2,l2,cap2,e6,Nh,IU,Il,Nf⟩:=Df ht hT hK hI hSS hU16 XR hR hU8 hU64 h0 h1 h2 h3 h4 h5 h6 h7 k0 k1 cT cK cI cS cSS cU16 cRR cR cU8 cU64 n k _ _ (by omega) p5;obtain⟨hw,e7,_,w7⟩:=DataW.trod_int hI p6;obtain⟨cd,e8,_,w8⟩:=DataW.trod_int hI p7;obtain⟨ty,rfl,v2⟩:=ER w2;obtain⟨lf,rfl,v4⟩:=Dd w4;obtain⟨nn,rfl,v5⟩:=Dd w5;simp at e0 e1 e2 e3 e4 e5 e6 e7 e8;subst e0 e1 e2 e3 e4 e5 e6 e7 e8;have q0:=hcell 0 (by omega);have q1:=hcell 1 (by omega);have q2:=hcell 2 (by omega);have q3:=hcell 3 (by omega);have q4:=hcell 4 (by omega);have q5:=hcell 5 (by omega);have q6:=hcell 6 (by omega);have q7:=hcell 7 (by omega);have q8:=hcell 8 (by omega);simp[Addr.add_lit]at q0 q1 q2 q3 q4 q5 q6 q7 q8;refine⟨.mk ⟨n0,nm.data.toList,ty,rl,lf,nn,hw,cd⟩ l2,yR.2 ⟨by simpa using Xj,Nf⟩,b,off,rfl,qx.2 ⟨⟨xE w0,v2,v4,v5,xE w7,xE w8⟩,trivial,?_,by simpa using q1,q2,⟨RA,rc,q3,⟨Gp,Gc⟩,Jq⟩,q4,q5,⟨A2,cap2,q6,⟨Nh,IU⟩,Il⟩,q7,q8⟩⟩;by_cases hz:i=0
       ·subst hz;simpa[Addr.add]using q0
       ·simpa[Addr.add,hz]using q0
   obtain⟨l,rfl,hp⟩:=jQ key;refine⟨some a,l,cap,rfl,hl,hm,cj.Vp l 0 λk hk=> ?_,Se l λk hk=>(hp k hk).1⟩;obtain⟨_,b,off,e1,e2⟩:=hp k hk;refine⟨b,off,e1,?_⟩;rw[Nat.zero_add];exact e2
end
end Go.Scrp
namespace Go.Proofs.YtifkphcaelafjaaGreatDoor
open Tryz
open Go.RowKit Go.Colm Go.FC Go.Scrp
theorem vY{w:World}{A:Option Addr}{l:List (List UInt8)}(h:jO (λ_=>True) w A l):bG (λ_=>True) w A l:=λi x hx=>by
 obtain⟨hi,rfl⟩:=List.getElem?_eq_some_iff.1 hx;obtain⟨b,off,A',cp,e,_,hc,_,hr⟩:=h i hi;exact⟨b,off,A',cp,e,trivial,hc,hr.row,λ_ _=>trivial⟩
def OX:Opd->Prop
 | .mk h _=>h.name.length<=600/\h.recs.length<=60/\∀x∈h.recs,x.length<=3000
def Ff(l:List Opd):Prop:=l.length<=100/\∀k (hk:k<l.length),OX l[k]
def Ej(l:List Opd)(e:Ending):Prop:=e= .returned (.bool false)\/e= .returned (.bool true)/\Ff l
theorem Dg{w:World}{A:Option Addr}{l:List (List UInt8)}(h:jO (λ_=>True) w A l):∀x∈l,x.length<=maxLen:=λx hx=>by
 obtain⟨i,hi,rfl⟩:=List.getElem_of_mem hx;obtain⟨_,_,_,_,_,_,_,⟨h1,h2⟩,_⟩:=h i hi;exact Nat.le_trans h1 h2
theorem Dh(l:List Opd)(A:Option Addr)(c:Nat)(w:World)(hr:cj (λ_=>True) w A 0 l)(hn:namL l)(Xl:l.length<=maxLen):
  Calls prog 6 #[.int .i64 0,.slice A l.length c] w λe w'=>Ej l e/\w'=w:=by
 have HR:=Fh hr;have HN:=Fh hn;have hlm':l.length<=9223372036854775807:=by unfold maxLen at Xl;omega
 obtain⟨n,Tm⟩:=Fp l.length;have HL:=Fh Tm;rw[<-Tm]at hlm'⊢;clear hr hn Xl Tm;go_in;go_wp2_with fail
 go_loop [5,6,7] (λs5 s6 _=>∃(k:Nat) (v:Int),k<=n/\s6= .int .i64 k/\s5= .int .i64 v/\-200000<=v/\v<=20000/\Hid (∀j,j<k->(hj:j<l.length)->OX l[j])) (λ_ s6 _=>n-(intOf s6).toNat)
 case atStart=>exact⟨0,20000,Nat.zero_le _,rfl,rfl,by omega,by omega,Fh λj h=>absurd h (by omega)⟩
 case round=>
  obtain⟨k,v,hk,rfl,rfl,F6,F0,HO⟩:=hrel;by_cases FR:k<n
  ·by_cases h2:k<200
   ·by_cases Qi:0<=v
    ·have RW:k<l.length:=by rw[<-HL.o];exact FR
     obtain⟨b,off,rfl,hs⟩:=HR.o.get l 0 k RW;rw[Nat.zero_add]at hs;have Ys:=M8 l k RW HN.o;rcases hek:l[k]with⟨h,sub⟩;rw[hek]at hs Ys;obtain⟨F4,_,a0,a1,a2,⟨RA,rc,a3,⟨KT,Xz⟩,LO⟩,a4,a5,_,a7,a8⟩:=qx.1 hs;obtain⟨NV,ML⟩:=yR.1 Ys;have HEK:=Fh hek;obtain⟨kd,Kq,ty,rs,lf,q,hw,cd⟩:=h;dsimp only at a1 a3 KT LO NV;have Xj:=eH Kq;have RT:Kq.length<=9223372036854775807:=by unfold maxLen at NV;omega
     obtain⟨S,hS⟩:∃S:ByteArray,S=⟨Kq.toArray⟩:=⟨_,rfl⟩;rw[<-hS]at a1 Xj;have Qo:=Fh LO;have hrm:rs.length<=maxLen:=Nat.le_trans KT Xz;have HF6:=Fh (CL (λ_=>True) RA rc rs w hrm (Dg LO) (vY LO));have PC:rs.length<=9223372036854775807:=by unfold maxLen at hrm;omega
     clear hek hs Ys F4 LO KT Xz NV ML hS hrm a0 a2 a4 a5 a7 a8;by_cases hn6:600<Kq.length
     ·have t1:decide ((600:Int)<(S.size:Int))=true:=decide_eq_true (by omega);go_wp2;go_ret;exact⟨.inl rfl,rfl⟩
     have t1:decide ((600:Int)<(S.size:Int))=false:=decide_eq_false (by omega);go_wp2_with fail;refine HF6.o.mono ?_;rintro e w2⟨rfl,rfl|⟨rfl,hr60,Jq⟩⟩
     ·go_wp2;go_ret;exact⟨.inl rfl,rfl⟩
     have H3:=Fh Jq;clear Jq;go_wp2_with fail
     go_loop [5,7] (λs5 s7=>∃(j:Nat) (u:Int),j<=rs.length/\s7= .int .i64 j/\s5= .int .i64 u/\-600-3001*(j:Int)<=u/\u<=20000) (λ_ s7=>rs.length-(intOf s7).toNat)
     case atStart=>exact⟨0,v-(Kq.length:Int),Nat.zero_le _,rfl,rfl,by omega,by omega⟩
     case round=>
      obtain⟨j,u,hj,rfl,rfl,SK,Pd⟩:=hrel;by_cases K0:j<rs.length
      ·obtain⟨b1,o1,A1,p1,rfl,_,GN,_,_⟩:=Qo.o j K0;have Tn:=H3.o rs[j] (List.getElem_mem _);obtain⟨xl,Pc⟩:=Fp (rs[j].length);rw[<-Pc]at GN Tn;clear Pc;go_wp2;go_round
       case rel=>exact⟨j+1,u-1-(xl:Int),by omega,by go_num,rfl,by omega,by omega⟩
       case measure=>simp[intOf];omega
      ·have Oz:Hid (∀j,j<k+1->(hj:j<l.length)->OX l[j]):=Fh λi hi RD=>by
        by_cases e:i=k
        ·subst e;rw[HEK.o];exact⟨by show Kq.length<=600;omega,hr60,H3.o⟩
        ·exact HO.o i (by omega) RD
       go_wp2;go_round
       case rel=>exact⟨k+1,u,by omega,by go_num,rfl,by omega,by omega,Oz⟩
       case measure=>simp[intOf];omega
    ·by_cases h1:n<=100
     all_goals
      go_wp2;go_ret;exact⟨.inl (aq (by first|rfl|(simp<;>omega))),rfl⟩
   ·go_wp2;go_ret;exact⟨.inl (aq (by first|rfl|(simp<;>omega))),rfl⟩
  ·have Oz:Hid (∀j (hj:j<l.length),OX l[j]):=Fh λj hj=>HO.o j (by have:=HL.o;omega) hj;by_cases h1:n<=100
   ·by_cases Qi:0<=v
    ·go_wp2;go_ret;exact⟨.inr ⟨aq (by first|rfl|(simp<;>omega)),by rw[<-HL.o];exact h1,Oz.o⟩,rfl⟩
    ·go_wp2;go_ret;exact⟨.inl (aq (by first|rfl|(simp<;>omega))),rfl⟩
   ·go_wp2;go_ret;exact⟨.inl (aq (by first|rfl|(simp<;>omega))),rfl⟩
open Go.Maps Go.FP Go.Fy Go.Fz
structure V0(w0:World)(O Λ':av)(cb bk Sf Sg:Nat)(W:World)(m m':Mm):Prop where
 a:dt cb bk O m 0 W
 b:dt Sf Sg Λ' m' 0 W
 am:jL O W
 bm:jL Λ' W
 ge:∀k,au O k->w0.heap.size<=k
 ge':∀k,au Λ' k->w0.heap.size<=k
 ab:∀k,(eX Λ' k\/k=Sf\/k=Sg)->¬au O k
 ba:∀k,(eX O k\/k=cb\/k=bk)->¬au Λ' k
 bel:Below w0.heap.size w0 W
theorem dt.QT{cb bk d:Nat}{O:av}{μ:Mm}{w w':World}{S:Nat->Prop}(h:dt cb bk O μ d w)(hk:aa S w w')(hs:∀k,(eX O k\/k=cb\/k=bk)->¬S k):dt cb bk O μ d w':=by
 obtain⟨Ga,hm⟩:=h.b;exact⟨hk.whole h.c (hs _ (.inr (.inl rfl))),⟨Ga,hk.whole hm (hs _ (.inr (.inr rfl)))⟩,h.m.kept hk λk q=>hs k (.inl q)⟩
theorem jL.QT{O Λ':av}{w w':World}(h:jL O w)(h':jL Λ' w)(hk:aa (au Λ') w w'):jL O w':=⟨(h'.kept hk).m,h.n⟩
namespace V0
variable{w0 W:World}{O Λ':av}{cb bk Sf Sg:Nat}{m m':Mm}
theorem onA(h:V0 w0 O Λ' cb bk Sf Sg W m m'){m2:Mm}{W2:World}(g:MG O W m2 W2):V0 w0 O Λ' cb bk Sf Sg W2 m2 m':=
 ⟨((CG.of h.a).on g).has,h.b.QT g.kept h.ab,h.am.kept g.kept,h.bm.QT h.am g.kept,h.ge,h.ge',h.ab,h.ba,((aa.below h.bel (au O)).trans g.kept).F1 (Fm _) λk hk e=>by have:=h.ge k e;omega⟩
theorem onB(h:V0 w0 O Λ' cb bk Sf Sg W m m'){m2:Mm}{W2:World}(g:MG Λ' W m2 W2):V0 w0 O Λ' cb bk Sf Sg W2 m m2:=
 ⟨h.a.QT g.kept h.ba,((CG.of h.b).on g).has,h.am.QT h.bm g.kept,h.bm.kept g.kept,h.ge,h.ge',h.ab,h.ba,((aa.below h.bel (au Λ')).trans g.kept).F1 (Fm _) λk hk e=>by have:=h.ge' k e;omega⟩
theorem on(h:V0 w0 O Λ' cb bk Sf Sg W m m'){W2:World}(g:Below W.heap.size W W2):V0 w0 O Λ' cb bk Sf Sg W2 m m':=h.onA ((MG.refl h.a.m).below g)
end V0
theorem vZ{w:World}{B:Nat}{e:TypeId}{size n:Nat}{v:Value}{xs:List Value}(h:w.ownsRow B e size v n xs):n<=maxLen:=by
 rcases h.2 with⟨q,_⟩|⟨g,cap,Kb,_,_,_,h4,h5,_⟩
 ·have:=h.1
  simp_all
 ·exact Nat.le_trans h4 h5
def Fg(w0:World)(O Λ':av)(cb bk Sf Sg k:Nat)(W:World):Prop:=∃m m' now,V0 w0 O Λ' cb bk Sf Sg W m m'/\Bt m m' now k (k*5000)
theorem tJ(s:Int)(A:Option Addr)(l:List Opd)(c:Nat)(h3:namL l)(Xl:l.length<=maxLen)(A2:Option Addr)(bs:List Bool)(c2:Nat)(FF:bs.length<=maxLen)(w:World)(r:cj (λ_=>True) w A 0 l)(r2:aM w A2 (bs.map .bool))(he:eB w):
  Calls prog 4 #[.int .i64 s,.slice A l.length c,.slice A2 bs.length c2] w λe W'=>e= .returned (.bool true)/\Below w.heap.size w W':=by
 have HCA:Hid (∀W,Below w.heap.size w W->Calls prog 7 #[] W λe w'=>e= .returned (.bool true)/\Below w.heap.size w w'):=Fh λW hb=>(AH W (he.below hb)).mono λe w' ⟨h1,h2⟩=>⟨h1,ah hb h2⟩;have HFW:=Fh (Dh l A c w r h3 Xl);have HR:=Fh r;have KO:=Fh r2;have HE:=Fh he;have Yh:=Fh h3;have hlm':l.length<=9223372036854775807:=by unfold maxLen at Xl;omega
 have hbm':bs.length<=9223372036854775807:=by unfold maxLen at FF;omega
 clear r r2 he h3 Xl FF;obtain⟨n,hn⟩:=Fp l.length;obtain⟨n2,ML⟩:=Fp bs.length;have HN:=Fh hn;have QQ:=Fh ML;rw[<-hn]at HFW hlm'⊢;rw[<-ML]at hbm'⊢;clear hn ML;by_cases Wo:s<7
 ·go_in;go_wp2_with fail;refine(HCA.o _ (Below.refl _ _)).mono ?_;rintro e w2⟨rfl,hb⟩;have HB:=Fh hb;clear hb;go_wp2;go_ret;exact⟨rfl,HB.o⟩
 by_cases hs9:9<s
 ·go_in;go_wp2_with fail;refine(HCA.o _ (Below.refl _ _)).mono ?_;rintro e w2⟨rfl,hb⟩;have HB:=Fh hb;clear hb;go_wp2;go_ret;exact⟨rfl,HB.o⟩
 obtain⟨t,rfl⟩:∃t:Nat,s=(t:Int):=⟨s.toNat,by omega⟩;have ht7:7<=t:=by omega
 have ht9:t<=9:=by omega
 have VE:=Fh λW=>vD t W (by omega);obtain⟨m0,Yt,Nt⟩:=Bt.new ht7 ht9;have F4:LP t (32*t)=true:=bB.2 (by omega);have HNEW:Hid (∀W,Below w.heap.size w W->_):=Fh λW (hb:Below w.heap.size w W)=>xV t (32*t) W (HE.o.below hb) F4 m0 Yt;have HBT:=Fh Nt;obtain⟨t2,Xg⟩:=Fp (32*t);rw[<-Xg]at HNEW;simp only [<-Xg]at VE;clear Xg Yt Nt F4;go_in;go_wp2_with fail;refine HFW.o.mono ?_;rintro e w2⟨Ny,FL⟩;rw[FL];clear FL w2;rcases Ny with rfl|⟨rfl,hfew⟩
 ·go_wp2_with fail;refine(HCA.o _ (Below.refl _ _)).mono ?_;rintro e w3⟨rfl,hb⟩;have HB:=Fh hb;clear hb;go_wp2;go_ret;exact⟨rfl,HB.o⟩
 have HFS:=Fh hfew;have hn100:n<=100:=by rw[HN.o];exact hfew.1
 clear hfew;by_cases hlen:n2<n
 ·go_wp2_with fail;refine(HCA.o _ (Below.refl _ _)).mono ?_;rintro e w3⟨rfl,hb⟩;have HB:=Fh hb;clear hb;go_wp2;go_ret;exact⟨rfl,HB.o⟩
 go_wp2_with fail;refine(VE.o _).mono ?_;rintro e w3⟨rfl,Gf⟩;go_wp2_with fail;refine(HNEW.o _ Gf).mono ?_;rintro e w4⟨cb,bk,O,rfl,Lr,SN,Na,Jg,Gk⟩;have HA:=Fh (And.intro Lr (And.intro SN (And.intro Gf (ah Gf Gk))));clear Gf Gk Lr SN Na Jg;go_wp2_with fail;refine(VE.o _).mono ?_;rintro e w5⟨rfl,Io⟩;have Vr:=ah HA.o.2.2.2 Io;go_wp2_with fail;refine(HNEW.o _ Vr).mono ?_;rintro e w6⟨Sf,Sg,Λ',rfl,hcb2,OY,hcc2,hbk2,I3⟩;have HTWO:Hid (V0 w O Λ' cb bk Sf Sg w6 m0 m0):=Fh (by
  obtain⟨Lr,SN,Gf,Gk⟩:=HA.o;have h56:=ah Io I3;have FR:∀k,(eX O k\/k=cb\/k=bk)->k<w4.heap.size:=λk hk=>by
   rcases hk with q|q|q
   ·exact Lr.m.lt q
   ·rw[q];exact Lr.c.lt
   ·rw[q];obtain⟨mo,W8⟩:=Lr.b;exact W8.lt
  have Gw:∀k,au O k->w.heap.size<=k:=λk hk=>by
   refine Classical.byContradiction λq=>kr SN (k:=k) ?_ hk;have:=Gf.size;omega
  have Gq:∀k,au O k->eX O k:=λk hk=>by
   rcases hk with q|q|q
   ·exact .inr (.inl q)
   ·exact .inr (.inr (.inr (.inl q)))
   ·exact .inr (.inr (.inr (.inr (.inl q))))
  have h45:=Io.size;refine⟨(Lr.below h56),hcb2,pT HE.o (Lr.below h56).m ?_,pT HE.o hcb2.m ?_,Gw,λk hk=> ?_,λk hk Jc=> ?_,λk hk=>kr OY (by have:=FR k hk;omega),ah Vr I3⟩
  ·have:=Gf.size;exact⟨by have:=SN.mb;omega,by have:=SN.wb;omega,by have:=SN.ab;omega,by have:=SN.gb;omega,by have:=SN.kb;omega⟩
  ·have:=Vr.size;exact⟨by have:=OY.mb;omega,by have:=OY.wb;omega,by have:=OY.ab;omega,by have:=OY.gb;omega,by have:=OY.kb;omega⟩
  ·refine Classical.byContradiction λq=>kr OY (k:=k) ?_ hk;have:=Vr.size;omega
  ·have h1:=FR k (.inl (Gq k Jc));have h2:=Gw k Jc;have h3:=OY;rcases hk with(q|q|q|q|q|q)|q|q
   ·have:=h3.mb;omega
   ·have:=h3.wb;omega
   ·have:=h3.ab;omega
   ·have:=h3.gb;omega
   ·have:=h3.kb;omega
   ·have:=HE.o.lt q;omega
   ·omega
   ·omega)
 clear Io Vr hcb2 OY hcc2 hbk2 I3 HA;go_wp2_with fail
 go_loopw [6,11,12,13,14,15,16,17] (λ_ La _ _ _ _ _ _ W=>∃k:Nat,k<=n/\La= .int .i64 k/\Hid (Fg w O Λ' cb bk Sf Sg k W)) (λ_ La _ _ _ _ _ _ _=>n-(intOf La).toNat)
 case atStart=>exact⟨0,Nat.zero_le _,rfl,Fh ⟨m0,m0,0,HTWO.o,HBT.o⟩⟩
 case round=>
  obtain⟨k,hk,rfl,HC⟩:=hrel;obtain⟨m,m',now,Q6,Nt⟩:=HC.o;by_cases FR:k<n
  ·have RW:k<l.length:=by rw[<-HN.o];exact FR
   have Pq:k<bs.length:=by rw[<-QQ.o];omega
   obtain⟨bA,oA,rfl,hs⟩:=HR.o.get l 0 k RW;rw[Nat.zero_add]at hs;have Ys:=M8 l k RW Yh.o;have Ng:=HFS.o.2 k RW;rcases hek:l[k]with⟨h,sub⟩;rw[hek]at hs Ys Ng;obtain⟨F4,_,a0,a1,a2,⟨RA,rc,a3,⟨KT,Xz⟩,LO⟩,a4,a5,⟨SA,sc,a6,_,_⟩,a7,a8⟩:=qx.1 hs;obtain⟨kd,Kq,ty,rs,lf,q,hw,cd⟩:=h;obtain⟨⟨JQ,Jc⟩,GL,Xc,hqn,_,_⟩:=F4;obtain⟨Nh,IU,Il⟩:=Ng;dsimp only at a0 a1 a2 a3 KT a4 a5 a7 a8 GL Xc hqn Nh IU Il JQ Jc;have HRC:Hid (∀W,Below w.heap.size w W->bG (λ_=>True) W RA rs):=Fh λW hb=>(vY LO).below hb;have JE:Hid (∀W,Below w.heap.size w W->W.cell? ⟨bA,oA+k*9,none⟩=some (.int .i64 kd)/\W.cell? ⟨bA,oA+k*9+1,none⟩=some (.string ⟨Kq.toArray⟩)/\W.cell? ⟨bA,oA+k*9+2,none⟩=some (.int .u16 (ty:Int))/\W.cell? ⟨bA,oA+k*9+3,none⟩=some (.slice RA rs.length rc)/\W.cell? ⟨bA,oA+k*9+4,none⟩=some (.int .u64 (lf:Int))/\
     W.cell? ⟨bA,oA+k*9+5,none⟩=some (.int .u64 (q:Int))/\W.cell? ⟨bA,oA+k*9+6,none⟩=some (.slice SA sub.length sc)/\W.cell? ⟨bA,oA+k*9+7,none⟩=some (.int .i64 hw)/\W.cell? ⟨bA,oA+k*9+8,none⟩=some (.int .i64 cd)):=
    Fh λW hb=>⟨(hb.cell (ap a0)).trans a0,(hb.cell (ap a1)).trans a1,(hb.cell (ap a2)).trans a2,(hb.cell (ap a3)).trans a3,(hb.cell (ap a4)).trans a4,(hb.cell (ap a5)).trans a5,(hb.cell (ap a6)).trans a6,(hb.cell (ap a7)).trans a7,(hb.cell (ap a8)).trans a8⟩
   obtain⟨b2,o2,rfl,FF⟩:=KO.o k (.bool bs[k]) (by rw[List.getElem?_map,Fl Pq];rfl);have Gx:Hid (∀W,Below w.heap.size w W->W.cell? ⟨b2,o2+k,none⟩=some (.bool bs[k])):=Fh λW hb=>(hb.cell (ap FF)).trans FF;have Xj:=eH Kq;have hnd:(ByteArray.mk Kq.toArray).data.toList=Kq:=rfl;obtain⟨S,hS⟩:∃S:ByteArray,S=⟨Kq.toArray⟩:=⟨_,rfl⟩;rw[<-hS]at Xj hnd;simp only [<-hS]at JE;obtain⟨sl,IX⟩:=Fp sub.length;simp only [<-IX]at JE;obtain⟨bv,hbv⟩:=Fp (bs[k]);rw[<-hbv]at Gx;have HND:=Fh hnd;have HX3:=Fh Il;have HTW:=Fh Q6;have HBT':=Fh Nt;clear hek hs Ys LO KT Xz a0 a1 a2 a3 a4 a5 a6 a7 a8 FF hS IX hbv hnd Il Q6 Nt HC RW Pq;obtain⟨x0,x1,x2,x3,x4,x5,x6,x7,x8⟩:=JE.o wr HTW.o.bel;have y0:=Gx.o wr HTW.o.bel;by_cases k7:kd=7
   ·subst k7;go_wp2;go_roundw
    case rel=>exact⟨k+1,by omega,by go_num,Fh ⟨m,m',now,HTW.o,HBT'.o.more (by omega) (by omega)⟩⟩
    case measure=>simp[intOf];omega
   have z7:(kd==7)=false:=by simpa using k7
   cases bv
   case' false=>
    obtain⟨w7,Li⟩:=Fp wr;subst Li;obtain⟨mb,hmb⟩:=Fp m';subst hmb;have JU:=HTW;have OH:=Fh (HBT'.o.more (c':=k) (v':=k*5000+32) (Fm _) (by omega))
   case' true=>
    obtain⟨qc,mb,ec,V8⟩:=HBT'.o.Xy (by omega);have PD:=vy HTW.o.b qc mb ec;obtain⟨er,Ih⟩:∃er:Int,er=if qc.isSome then 0 else 7:=⟨_,rfl⟩
    obtain⟨ql,Y3⟩:=Fp ((qc.getD []).length);rw[<-Ih,<-Y3]at PD;have HCP:=Fh PD;clear PD Ih Y3;have OH:=Fh V8;clear ec V8;go_wp2_with fail;refine HCP.o.mono ?_;rintro e w7⟨rfl,J1⟩;have JU:=Fh (HTW.o.onB J1);clear J1 x0 x1 x2 x3 x4 x5 x6 x7 x8 y0;obtain⟨x0,x1,x2,x3,x4,x5,x6,x7,x8⟩:=JE.o w7 JU.o.bel
   all_goals
    have HQ:=Fh (OH.o.quiet (by omega) (by omega) kd Kq GL rs lf q);obtain⟨⟨la,ea,ga⟩,⟨lb,eb,gb⟩,ma3,mb3,e1,e2,e3⟩:=HQ.o;rw[<-HND.o]at e1 e2;have E2:=Fh e2;have E3:=Fh e3;have HQA:=Fh (mC JU.o.a JU.o.am kd S (by omega) ty GL RA rc rs (HRC.o _ JU.o.bel) (by omega) (λx hx=>by have:=HX3.o x hx;omega) lf q Xc hqn (.slice SA sl sc) hw cd ((la,ea,ga),ma3) e1);clear e1 e2 e3 HQ;go_wp2_with fail;refine HQA.o.mono ?_;rintro e w8⟨va,usa,rfl,hina,Ty⟩;obtain⟨Aa,ca,rfl,_⟩:=hina.Mb;have OD:=Fh (JU.o.onA Ty);have HIA:=Fh hina;have IA:=Fh Ty.kept.size;clear hina Ty;obtain⟨v0,v1,v2,v3,v4,v5,v6,v7,v8⟩:=JE.o w8 OD.o.bel;have HQB:=Fh (mC OD.o.b OD.o.bm kd S (by omega) ty GL RA rc rs (HRC.o _ OD.o.bel) (by omega) (λx hx=>by have:=HX3.o x hx;omega) lf q Xc hqn (.slice SA sl sc) hw cd ((lb,eb,gb),mb3) E2.o);go_wp2_with fail;refine HQB.o.mono ?_;rintro e w9⟨vb,usb,rfl,hinb,Ps⟩;obtain⟨Ab,cbb,rfl,_⟩:=hinb.Mb;have PI:=Fh (OD.o.onB Ps);have HIA9:=Fh (HIA.o.kept Ps.kept λk h1 _ e=>by
     rcases e with e|e|e
     ·have:=JU.o.b.m.lt (.inr (.inl rfl));omega
     ·have:=JU.o.b.m.lt (.inr (.inr (.inr (.inl rfl))));omega
     ·have:=JU.o.b.m.lt (.inr (.inr (.inr (.inr (.inl rfl)))));omega)
    have HIB:=Fh hinb;clear hinb Ps v0 v1 v2 v3 v4 v5 v6 v7 v8;cases ga
    ·cases gb
     ·obtain⟨h1,h2,Ko,h3⟩:=E3.o rfl rfl;have h1:la=lb:=h1;have h2:ea=eb:=h2;subst h1 h2;have WS:=Fh h3;clear h3;obtain⟨Aa',ca',UN,Rp⟩:=HIA9.o.Mb;obtain⟨Ab',cb2,H9,hrb2⟩:=HIB.o.Mb;injection UN with U0 _ U1;injection H9 with hrb1 _ hrb3;subst U0 U1 hrb1 hrb3;have PJ:=Fh (sg (λ_=>True) (λ_=>True) Aa Ab ca cbb la w9 (vZ HIA9.o.2.1) Rp hrb2);clear Rp hrb2;obtain⟨ln,Kf⟩:=Fp la.length;rw[<-Kf]at PJ;go_wp2_with fail;rw[<-Kf];refine PJ.o.mono ?_;rintro e LV⟨rfl,Ld⟩;have HT10:=Fh (PI.o.on Ld);clear Ld;go_wp2;go_roundw
      case rel=>exact⟨k+1,by omega,by go_num,Fh ⟨ma3,mb3,Ko,HT10.o,WS.o.more (by omega) (by omega)⟩⟩
      case measure=>simp[intOf];omega
     ·go_wp2_with fail;refine(HCA.o _ PI.o.bel).mono ?_;rintro e LV⟨rfl,hb⟩;have HB:=Fh hb;clear hb;go_wp2;go_ret;exact⟨rfl,HB.o⟩
    ·go_wp2_with fail;refine(HCA.o _ PI.o.bel).mono ?_;rintro e LV⟨rfl,hb⟩;have HB:=Fh hb;clear hb;go_wp2;go_ret;exact⟨rfl,HB.o⟩
  ·have Ov:=Fh (oS Q6.a);have HMB:=Fh λW (hb:Below wr.heap.size wr W)=>oS (Q6.on hb).b;have HFA:=Fh (gr Q6.a.m);have HFB:=Fh λW (hb:Below wr.heap.size wr W)=>gr (Q6.on hb).b.m;have HBW:=Fh Q6.bel;clear Q6 Nt HC;go_wp2_with fail;refine Ov.o.mono ?_;rintro e w7⟨rfl,Li⟩;rw[Li];clear Li w7;go_wp2_with fail;refine HFA.o.mono ?_;rintro e w8⟨rfl,hb8⟩;have Qu:=Fh hb8;clear hb8;go_wp2_with fail;refine(HMB.o _ Qu.o).mono ?_;rintro e w9⟨rfl,hw9⟩;rw[hw9];clear hw9 w9;go_wp2_with fail;refine(HFB.o _ Qu.o).mono ?_;rintro e LV⟨rfl,Ld⟩;have HB10:=Fh (ah (ah HBW.o Qu.o) Ld);clear Ld;go_wp2_with fail;refine(HCA.o _ HB10.o).mono ?_;rintro e NU⟨rfl,hb⟩;have HB:=Fh hb;clear hb;go_wp2;go_ret;exact⟨rfl,HB.o⟩
end Go.Proofs.YtifkphcaelafjaaGreatDoor
namespace Go.Scrp
open Go.RowKit Go.Colm Go.ChangeShapes Go.WideShapes
section
variable{H:Type}{enc:TypeId×Value->H}{P:Program}{w:World}{base:Nat}{spare:Nat->Bool}{held:Bool}
theorem ES{t e:TypeId}(ht:P.underlying t=some (.slice e))(he:P.underlying e=some .bool)(hc:P.cellsOf e=1){a:Option Addr}{len cap fuel:Nat}{x:DataW H×List MemPlace}
  (h:DataW.trod enc P w base spare held fuel t [.slice a len cap]=some x):∃l:List Bool,l.length=len/\len<=cap/\cap<=maxLen/\aM w a (l.map .bool):=by
 rcases DataW.trod_slice ht h with⟨e,_⟩|⟨a',len',cap',elems,rest,m,_,hcs,_,_,hl,hm,hlen,hel,_,_⟩
 ·simp at e;obtain⟨rfl,rfl,rfl⟩:=e;exact⟨[],rfl,by omega,by unfold maxLen;omega,aM.nil _ _⟩
 ·simp at hcs;obtain⟨rfl,rfl,rfl⟩:=hcs;have key:∀i,i<len->∃b:Bool,w.cell? (a'.add i)=some (.bool b):=by
   intro i hi;have hb:=hel i hi;rw[Fl (by omega)]at hb;obtain⟨cs',GN,KQ⟩:=Fi hb;rw[hc]at GN;obtain⟨_,O2,hcell⟩:=World.cells?_some GN;obtain⟨b,e1,_⟩:=DataW.trod_bool he KQ;subst e1;have q0:=hcell 0 (by omega);refine⟨b,?_⟩;simpa[Addr.add]using q0
  obtain⟨l,G1,hp⟩:=jQ key;refine⟨l,G1,hl,hm,lZ λi v hv=> ?_⟩;have hi:i<l.length:=by
   have:=(List.getElem?_eq_some_iff.1 hv).1;simpa using this
  rw[hp i hi,<-hv];simp[hi]
end
end Go.Scrp
namespace Go.Proofs.YtifkphcaelafjaaGreatDoor
open Tryz
open Go.RowKit Go.Colm Go.FC Go.Scrp
theorem yS(s:Int)(hs:(Lit.int .i64 s).wf=true)(A:Option Addr)(l:List Opd)(c:Nat)(h1:l.length<=c)(h2:c<=maxLen)(h3:namL l)(A2:Option Addr)(bs:List Bool)(c2:Nat)(h4:bs.length<=c2)(h5:c2<=maxLen)(W:World)(r:cj (λ_=>True) W A 0 l)(r2:aM W A2 (bs.map .bool))(he:eB W):
  Calls prog 4 #[.int .i64 s,.slice A l.length c,.slice A2 bs.length c2] W λe W'=>e= .returned (.bool true)/\Below W.heap.size W W':=
 tJ s A l c h3 (Nat.le_trans h1 h2) A2 bs c2 (Nat.le_trans h4 h5) W r r2 he
open Go.ChangeShapes Go.WideShapes
theorem xF{H:Type}{enc:TypeId×Value->H}{a:Assume}{C:Checked}{os:Os}{f:FuncId}{fn:Func}{s:ChangeSpec}{conds:List PathCond}{apart fresh handsOn again:Bool}{X:World->Array Value->Prop}
  (hX:∀(w w':World) (args:Array Value),w.heap=w'.heap->X w args->X w' args)
  (own:ownKnob C.prog.godebug=none) (started:os.Started) (noInit:C.prog.inits.idxOf? f=none) (hfn:C.prog.funcs[f]? =some fn)
  (witness:∃(w:World) (tape:Tape) (i:Input),w.os=os/\(w.forCall tape i).Shaped C.prog/\i.vars= []/\Input.okWide C.prog (w.forCall tape i) .any w.heap.size f i/\
   ((s.pre enc C.prog fn conds apart (w.forCall tape i).memory i.args/\X (w.forCall tape i).memory i.args)/\sizedMet enc C.prog fn (OpenSpec.ofChange s) apart (w.forCall tape i).memory i.args)/\a.holds C.prog (lone (Frame.enter C.prog f i.args .normal) [] (w.forCall tape i)))
  (contract:∀(W:World) (base:Nat) (args:Array Value) (ds gs:List (DataW H)) (before:List MemPlace),
   (∀(j:Nat) t v,fn.params[j]? =some t->args[j]? =some v->Value.okWide C.prog W .any base t v)->
   DataW.Whole enc C.prog fn.params.toList s.vars apart W args.toList ds gs before->W.ShapedOpen C.prog->X W args->
   Calls C.prog f args W λe W'=>∃v,e= .returned v/\s.post enc C.prog fn apart fresh handsOn again W args v W'):
  ReturnsInHanded a C os f .any (λw args=>(s.pre enc C.prog fn conds apart w args/\X w args)/\sizedMet enc C.prog fn (OpenSpec.ofChange s) apart w args) (s.post enc C.prog fn apart fresh handsOn again):=by
 refine returnsInHanded_of_calls own started noInit witness ?_;intro w tape i _ hsh _ F4 QW hholds;obtain⟨_,_,_,fn',hfn',_,_,_,_,hval⟩:=F4;have e:fn'=fn:=Fk (hfn'.symm.trans hfn);subst e;obtain⟨⟨⟨ds,gs,before,hw,hc⟩,hx⟩,hz⟩:=QW;have hw':=DataW.Whole.of_heap (w':=w.forCall tape i) (by rfl) hw;refine(contract (w.forCall tape i) w.heap.size i.args ds gs before hval hw' hsh (hX (w.forCall tape i).memory (w.forCall tape i) i.args rfl hx)).mono λe W' ⟨v,he,hp⟩=> ?_;subst he;exact ChangeSpec.post_blind hp
section
variable{H:Type}{enc:TypeId×Value->H}{W:World}{base:Nat}{spare:Nat->Bool}{held:Bool}
theorem xG{fuel:Nat}{cs:List Value}{x y:Int}{p:List MemPlace}(h:DataW.trod enc prog W base spare held fuel 308 cs=some (.agg [.lit (.int .i64 x),.lit (.int .i64 y)],p)):cs= [.int .i64 x,.int .i64 y]:=by
 exact Lib.cells_of_tab (zs:= [x,y]) underlying308 underlying3 (by kernel_rfl) (by kernel_rfl) h
def wc(l:List (Int×Int)):DataW H:= .agg (l.map λr=> .agg [.lit (.int .i64 r.1),.lit (.int .i64 r.2)])
theorem xH{n:Nat}{t:TypeId}{fuel:Nat}{cs:List Value}{l:List (Int×Int)}{p:List MemPlace}(ht:prog.underlying t=some (.array n 308))(h:DataW.trod enc prog W base spare held fuel t cs=some (wc l,p)):
  ∀i,i<n->∃x y,l[i]? =some (x,y)/\(cs.drop (i*2)).take 2= [.int .i64 x,.int .i64 y]:=by
 obtain⟨xs,m,_,e,_,hxn,hx⟩:=DataW.trod_array ht h;have hc:prog.cellsOf 308=2:=by kernel_rfl
 intro i hi;have hxi:=hx i hi;rw[hc]at hxi;have e1:(l.map λr=>(DataW.agg [.lit (.int .i64 r.1),.lit (.int .i64 r.2)]:DataW H))=xs.map (·.1):=by
  have:=congrArg Prod.fst e;simpa[wc]using this
 have RD:i<l.length:=by
  have:=congrArg List.length e1;simp at this;omega
 have QE:i<xs.length:=by omega
 have e2:=congrArg (λq=>q[i]?) e1;simp only [List.getElem?_map,Fl RD,Fl QE,Option.map_some,Option.some.injEq]at e2;rw[Fl QE]at hxi;refine⟨(l[i]'RD).1,(l[i]'RD).2,Fl RD,xG (fuel:=m) (enc:=enc) (W:=W) (base:=base) (spare:=spare) (held:=held) (p:=(xs[i]'QE).2) ?_⟩;rw[hxi];exact congrArg some (Prod.ext e2.symm rfl)
end
theorem Di{P:Program}{W:World}{name:String}{d:DataW Unit}{g:Nat}{t:TypeId}(hg:P.globalNamed name=some g)(GL:(P.globals[g]?).map (·.type)=some t)(h:laidMet P [(name,d)] W):
  ∃(cs:Array Value) (fuel:Nat) (p:List MemPlace) (base:Nat) (spare:Nat->Bool) (held:Bool) (enc:TypeId×Value->Unit),(∀i,W.cell? ⟨g,i,none⟩=cs[i]?)/\DataW.trod enc P W base spare held fuel t cs.toList=some (d,p):=by
 obtain⟨ps,⟨g',t',cs,fuel,p,q,UB,Np,hvar,hd,_,_⟩,_⟩:=h;obtain rfl:=Fk (hg.symm.trans UB);obtain rfl:=Fk (GL.symm.trans Np);exact⟨cs,fuel,p,_,_,_,_,λi=>World.var?_cell hg hvar i,hd⟩
theorem we{W:World}{name:String}{g n:Nat}{t:TypeId}{l:List (Int×Int)}(hg:prog.globalNamed name=some g)(GL:(prog.globals[g]?).map (·.type)=some t)(ht:prog.underlying t=some (.array n 308))(h:laidMet prog [(name,wc l)] W):
  ∀i,i<n->∃x y,l[i]? =some (x,y)/\W.cell? ⟨g,i*2,none⟩=some (.int .i64 x)/\W.cell? ⟨g,i*2+1,none⟩=some (.int .i64 y):=by
 obtain⟨cs,fuel,p,base,spare,held,enc,hc,hd⟩:=Di hg GL h;intro i hi;obtain⟨x,y,h1,h2⟩:=xH ht hd i hi;have g0:=congrArg (λq=>q[0]?) h2;have g1:=congrArg (λq=>q[1]?) h2;simp only [List.getElem?_take,List.getElem?_drop]at g0 g1;refine⟨x,y,h1,?_,?_⟩
 ·rw[hc];simpa using g0
 ·rw[hc];simpa using g1
def cmnP:List (Int×Int):= [(0,1),(1,1),(2,1),(3,1),(4,4)]
def ownP:List (Int×Int):= [(8,4),(12,4),(16,8),(24,2),(26,2),(28,4)]
theorem wg{W:World}{g n:Nat}{l:List (Int×Int)}{f:List Nat}(h:∀i,i<n->∃x y,l[i]? =some (x,y)/\W.cell? ⟨g,i*2,none⟩=some (.int .i64 x)/\W.cell? ⟨g,i*2+1,none⟩=some (.int .i64 y))
  (hf:∀i,i<n->l[i]? =some (((f.getD (i*2) 0:Nat):Int),((f.getD (i*2+1) 0:Nat):Int))):∀i,i<n*2->W.cell? ⟨g,i,none⟩=some (.int .i64 (f.getD i 0:Nat)):=by
 intro i hi;obtain⟨x,y,h1,h2,h3⟩:=h (i/2) (by omega);have h4:=h1.symm.trans (hf (i/2) (by omega));simp only [Option.some.injEq,Prod.mk.injEq]at h4;obtain⟨rfl,rfl⟩:=h4;rcases Nat.mod_two_eq_zero_or_one i with e|e
 ·rw[show i/2*2=i by omega]at h2;exact h2
 ·rw[show i/2*2+1=i by omega]at h3;exact h3
theorem tK{W:World}{name:String}{g n:Nat}{t:TypeId}{f:List Nat}(hg:prog.globalNamed name=some g)(GL:(prog.globals[g]?).map (·.type)=some t)(ht:prog.underlying t=some (.array n 3))(UC:prog.cellsOf t=n)(hn:f.length=n)
  (h:laidMet prog [(name,Lib.tabData .i64 (f.map λ(x:Nat)=>(x:Int)))] W):∀i,i<n->W.cell? ⟨g,i,none⟩=some (.int .i64 (f.getD i 0:Nat)):=by
 intro i hi;have hq:=(Lib.tabIs_of_head hg GL ht underlying3 (by kernel_rfl) UC h).cell hg i (by simp;omega);rw[hq,List.getD_eq_getElem?_getD,List.getD_eq_getElem?_getD,List.getElem?_map,Fl (by omega)];rfl
theorem Fe{W:World}{laid:List (String×DataW Unit)}(h:W.ShapedOpen prog)(hl:laidMet prog laid W)
  (e1:laid.filter (λx=>x.1== "columbarium/class.sizes")= [("columbarium/class.sizes",Lib.tabData .i64 (S8.map λ(n:Nat)=>(n:Int)))])
  (e2:laid.filter (λx=>x.1== "columbarium/memory.fields")= [("columbarium/memory.fields",Lib.tabData .i64 (TK.map λ(n:Nat)=>(n:Int)))])
  (e3:laid.filter (λx=>x.1== "columbarium/head.nowhere")= [("columbarium/head.nowhere",Lib.tabData .i64 ([0,0].map λ(n:Nat)=>(n:Int)))])
  (e4:laid.filter (λx=>x.1== "columbarium/head.common")= [("columbarium/head.common",wc cmnP)])
  (e5:laid.filter (λx=>x.1== "columbarium/head.own")= [("columbarium/head.own",wc ownP)]):eB W where
 sz:=by
  have q:=hl.filter (λx=>x.1== "columbarium/class.sizes");rw[e1]at q;exact tK (n:=10) (t:=252) (by kernel_rfl) (by kernel_rfl) underlying252 (by kernel_rfl) rfl q
 fl:=by
  have q:=hl.filter (λx=>x.1== "columbarium/memory.fields");rw[e2]at q;exact tK (n:=21) (t:=127) (by kernel_rfl) (by kernel_rfl) underlying127 (by kernel_rfl) rfl q
 hn:=by
  have q:=hl.filter (λx=>x.1== "columbarium/head.nowhere");rw[e3]at q;intro i hi;have:=tK (g:=2) (n:=2) (t:=308) (by kernel_rfl) (by kernel_rfl) underlying308 (by kernel_rfl) rfl q i hi;rcases i with _|_|i
  ·exact this
  ·exact this
  ·omega
 hc:=by
  have q:=hl.filter (λx=>x.1== "columbarium/head.common");rw[e4]at q;exact wg (n:=5) (we (n:=5) (t:=345) (by kernel_rfl) (by kernel_rfl) underlying345 q) (by decide)
 ho:=by
  have q:=hl.filter (λx=>x.1== "columbarium/head.own");rw[e5]at q;exact wg (n:=6) (we (n:=6) (t:=346) (by kernel_rfl) (by kernel_rfl) underlying346 q) (by decide)
 mx:=cell_of_shapedOpen_int (g:=3) (t:=3) (zero:= #[.int .i64 0]) h (of_decide_eq_true (by kernel_rfl)) (by kernel_rfl) rfl (by kernel_rfl) (by kernel_rfl) underlying3
end Go.Proofs.YtifkphcaelafjaaGreatDoor
