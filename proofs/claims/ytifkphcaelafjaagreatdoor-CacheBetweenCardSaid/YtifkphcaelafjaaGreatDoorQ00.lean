/-
  Lemmas on the way to the row. No condition beyond their own.
-/
import Derived.BigQuiet
import Derived.Deep.DeepCutAuto
import Derived.Deep.DeepMust
import Derived.Deep.Draws
import Derived.Deep.LoopGhost
import Derived.Deep.QuietTactic
import Derived.Deep.RegionHeld3
import Derived.Laws.BitsAllLaws
import Derived.Laws.BytesArg
import Derived.Laws.OwnMore
import Derived.Laws.Rows
import Derived.Lib.Builder
import Derived.Lib.ConvBytes
import Derived.Lib.Hide
import Derived.Lib.Join
import Derived.Lib.LaidTab
import Derived.Lib.SlBytesConst
import Derived.Lib.SlSplitV
import Derived.Lib.SliceRun
import Derived.Lib.SplitLaws
import Derived.Lib.Strings
import Derived.Maps.OwnSet
import Derived.OwnWalk
import Derived.RegionTactic
import Derived.Test.YtifkphcaelafjaaGreatDoorProg
import Derived.WalkKit
import Derived.WalkMore
import Derived.WalkSpells
import Derived.Test.YtifkphcaelafjaaGreatDoorQa
set_option maxHeartbeats 25600000
set_option maxRecDepth 100000
set_option linter.unusedVariables false
set_option linter.unusedSimpArgs false
namespace Go.FC
inductive Tr where
 |nil
 |node (l:Tr) (v:Nat) (r:Tr)
namespace Tr
def raw:Tr->Nat->Nat
 |nil,_=>0
 |node l v r,n=>bif Nat.beq n 0 then v else bif Nat.beq (n%2) 1 then raw l (n/2)else raw r (n/2-1)
def set:Nat->Tr->Nat->Nat->Tr
 |0,t,_,_=>t
 |k+1,nil,n,v=>bif Nat.beq n 0 then node nil v nil else bif Nat.beq (n%2) 1 then node (set k nil (n/2) v) 0 nil else node nil 0 (set k nil (n/2-1) v)
 |k+1,node l x r,n,v=>bif Nat.beq n 0 then node l v r else bif Nat.beq (n%2) 1 then node (set k l (n/2) v) x r else node l x (set k r (n/2-1) v)
def get(t:Tr)(n:Nat):Nat:=raw t n%256
def put(t:Tr)(n v:Nat):Tr:=set 24 t n v
def fill(t:Tr)(a:Nat):Nat->Nat->Tr
 |0,_=>t
 |n+1,v=>fill (t.put a v) (a+1) n v
def load(t:Tr)(a:Nat):Nat->Nat
 |0=>0
 |w+1=>t.get a+256*load t (a+1) w
def store(t:Tr)(a:Nat):Nat->Nat->Tr
 |0,_=>t
 |w+1,v=>store (t.put a (v%256)) (a+1) w (v/256)
def all(t:Tr)(a:Nat):Nat->Nat->Bool
 |0,_=>true
 |n+1,v=>Nat.beq (t.get a) v&&all t (a+1) n v
theorem Pf{a b:Nat}(h:a=b):Nat.beq a b=true:=by simp[h]
theorem I0{a b:Nat}(h:a≠b):Nat.beq a b=false:=by
 cases e:Nat.beq a b
 ·rfl
 ·exact absurd (Nat.eq_of_beq_eq_true e) h
theorem oc(m:Nat):raw nil m=0:=by unfold raw;rfl
theorem gP(l:Tr)(v:Nat)(r:Tr):raw (node l v r) 0=v:=by rw[raw];rfl
theorem jR(l:Tr)(v:Nat)(r:Tr){n:Nat}(h:n%2=1):raw (node l v r) n=raw l (n/2):=by
 rw[raw,I0 (by omega),Pf h];rfl
theorem gQ(l:Tr)(v:Nat)(r:Tr){n:Nat}(h:n≠0)(h2:n%2≠1):raw (node l v r) n=raw r (n/2-1):=by
 rw[raw,I0 h,I0 h2];rfl
theorem AS(k:Nat)(t:Tr)(n v:Nat):∃l x r,(∀m,raw t m=raw (node l x r) m)/\
  set (k+1) t n v=(bif Nat.beq n 0 then node l v r else bif Nat.beq (n%2) 1 then node (set k l (n/2) v) x r else node l x (set k r (n/2-1) v)):=by
 cases t with
 |nil=>
  refine⟨nil,0,nil,λm=> ?_,by rw[set]⟩;rw[oc];by_cases h:m=0
  ·rw[h,gP]
  ·by_cases h2:m%2=1
   ·rw[jR _ _ _ h2,oc]
   ·rw[gQ _ _ _ h h2,oc]
 |node l x r=>exact⟨l,x,r,λ_=>rfl,by rw[set]⟩
theorem Oo:∀(k:Nat) (t:Tr) (n v m:Nat),n+1<2^k->raw (set k t n v) m=if m=n then v else raw t m
 |0,t,n,v,m,h=>by simp at h
 |k+1,t,n,v,m,h=>by
  have hp:2^(k+1)=2*2^k:=by rw[Nat.pow_succ,Nat.mul_comm]
  rw[hp]at h;obtain⟨l,x,r,e1,e2⟩:=AS k t n v;rw[e2,e1];by_cases h0:n=0
  ·rw[Pf h0,h0];by_cases m0:m=0
   ·rw[m0];simp[gP]
   ·rw[if_neg m0];by_cases m1:m%2=1
    ·simp[jR _ _ _ m1]
    ·simp[gQ _ _ _ m0 m1]
  ·rw[I0 h0];by_cases h1:n%2=1
   ·rw[Pf h1];simp only [cond_false,cond_true];by_cases m0:m=0
    ·rw[m0,gP,gP,if_neg (by omega)]
    ·by_cases m1:m%2=1
     ·rw[jR _ _ _ m1,jR _ _ _ m1,Oo k l (n/2) v (m/2) (by omega)];by_cases e:m=n
      ·rw[if_pos e,if_pos (by omega)]
      ·rw[if_neg e,if_neg (by omega)]
     ·rw[gQ _ _ _ m0 m1,gQ _ _ _ m0 m1,if_neg (by rintro rfl;exact m1 h1)]
   ·rw[I0 h1];simp only [cond_false];by_cases m0:m=0
    ·rw[m0,gP,gP,if_neg (by omega)]
    ·by_cases m1:m%2=1
     ·rw[jR _ _ _ m1,jR _ _ _ m1,if_neg (by rintro rfl;exact h1 m1)]
     ·rw[gQ _ _ _ m0 m1,gQ _ _ _ m0 m1,Oo k r (n/2-1) v (m/2-1) (by omega)];by_cases e:m=n
      ·rw[if_pos e,if_pos (by omega)]
      ·rw[if_neg e,if_neg (by omega)]
theorem Jz(t:Tr)(n:Nat):get t n<256:=Nat.mod_lt _ (by decide)
theorem get_nil(n:Nat):get nil n=0:=by rw[get,oc]
theorem Hy(t:Tr){n:Nat}(v m:Nat)(h:n<16000000):get (put t n v) m=if m=n then v%256 else get t m:=by
 rw[get,put,Oo 24 t n v m (by omega)];split<;>rfl
theorem I1:∀(n:Nat) (t:Tr) (a v m:Nat),a+n<=16000000->get (fill t a n v) m=if a<=m/\m<a+n then v%256 else get t m
 |0,t,a,v,m,_=>by rw[fill,if_neg (by omega)]
 |n+1,t,a,v,m,h=>by
  rw[fill,I1 n _ _ _ _ (by omega),Hy _ _ _ (by omega)];by_cases e:m=a
  ·subst e;rw[if_neg (by omega),if_pos rfl,if_pos (by omega)]
  ·rw[if_neg e];by_cases e2:a+1<=m/\m<a+1+n
   ·rw[if_pos e2,if_pos (by omega)]
   ·rw[if_neg e2,if_neg (by omega)]
theorem NQ:∀(n:Nat) (t:Tr) (a v:Nat),fill t a (n+1) v=(fill t a n v).put (a+n) v
 |0,t,a,v=>by simp[fill]
 |n+1,t,a,v=>by
  rw[fill,NQ n,fill,show a+1+n=a+(n+1)by omega]
theorem RC:∀(w:Nat) (t:Tr) (a:Nat),load t a w<256^w
 |0,t,a=>by simp[load]
 |w+1,t,a=>by
  have h1:=Jz t a;have h2:=RC w t (a+1);rw[load,Nat.pow_succ];omega
theorem Ms:∀(k:Nat) (t:Tr) (a v:Nat),store t a (k+1) v=(store t a k v).put (a+k) (v/256^k%256)
 |0,t,a,v=>by simp[store]
 |k+1,t,a,v=>by
  rw[store,Ms k,store,Nat.div_div_eq_div_mul,Nat.pow_succ,Nat.mul_comm (256^k),show a+1+k=a+(k+1)by omega]
theorem Iz:∀(w:Nat) (t t':Tr) (a:Nat),(∀m,a<=m->m<a+w->get t m=get t' m)->load t a w=load t' a w
 |0,t,t',a,_=>rfl
 |w+1,t,t',a,h=>by
  rw[load,load,h a (Fm _) (by omega),Iz w t t' (a+1) λm h1 h2=>h m (by omega) (by omega)]
theorem GV:∀(w:Nat) (t:Tr) (a v m:Nat),a+w<=16000000->get (store t a w v) m=if a<=m/\m<a+w then v/256^(m-a)%256 else get t m
 |0,t,a,v,m,_=>by rw[store,if_neg (by omega)]
 |w+1,t,a,v,m,h=>by
  rw[store,GV w _ _ _ _ (by omega),Hy _ _ _ (by omega)];by_cases e:m=a
  ·subst e;rw[if_neg (by omega),if_pos rfl,if_pos (by omega),Nat.sub_self];simp
  ·rw[if_neg e];by_cases e2:a+1<=m/\m<a+1+w
   ·rw[if_pos e2,if_pos (by omega),Nat.div_div_eq_div_mul];congr 2;rw[show m-a=(m-(a+1))+1 by omega,Nat.pow_succ,Nat.mul_comm]
   ·rw[if_neg e2,if_neg (by omega)]
theorem Jb:∀(w:Nat) (t:Tr) (a v:Nat),a+w<=16000000->load (store t a w v) a w=v%256^w
 |0,t,a,v,_=>by simp[load,Nat.mod_one]
 |w+1,t,a,v,h=>by
  have e1:get (store t a (w+1) v) a=v%256:=by
   rw[GV _ _ _ _ _ h,if_pos (by omega),Nat.sub_self];simp
  have e2:load (store t a (w+1) v) (a+1) w=v/256%256^w:=by
   rw[store];exact Jb w _ _ _ (by omega)
  rw[load,e1,e2,Nat.pow_succ,Nat.mul_comm (256^w),Nat.mod_mul]
theorem Gs{w w':Nat}{t:Tr}{a a' v:Nat}(h:a+w<=16000000)(hd:a'+w'<=a\/a+w<=a'):load (store t a w v) a' w'=load t a' w':=
 Iz _ _ _ _ λm h1 h2=>by rw[GV _ _ _ _ _ h,if_neg (by omega)]
theorem Me:∀(n:Nat) (t:Tr) (a v:Nat),all t a n v=true↔∀m,a<=m->m<a+n->get t m=v
 |0,t,a,v=>by
  rw[all];exact⟨λ_ m h1 h2=>by omega,λ_=>rfl⟩
 |n+1,t,a,v=>by
  rw[all,Bool.and_eq_true,Me n];constructor
  ·rintro⟨h1,h2⟩ m h3 h4;by_cases e:m=a
   ·rw[e];exact Nat.eq_of_beq_eq_true h1
   ·exact h2 m (by omega) (by omega)
  ·intro h;exact⟨Pf (h a (Fm _) (by omega)),λm h1 h2=>h m (by omega) (by omega)⟩
end Tr
structure Rn where
 a:Nat
 n:Nat
 k:Nat
deriving DecidableEq
structure Mm where
 Fq:Nat
 slots:Nat
 b:Tr
 k:Tr
def LP(s n:Nat):Bool:=decide (7<=s)&&decide (s<=64)&&decide (n%2=0)&&decide (s*32<=n)&&decide (n<=8192)
def az(s:Nat):Nat:=128+s*16
def aN(s n:Nat):Nat:=(az s+n*4+15)/16*16
def br(s n:Nat):Nat:=aN s n+s*1024
theorem bB{s n:Nat}:LP s n=true↔7<=s/\s<=64/\n%2=0/\s*32<=n/\n<=8192:=by
 simp only [LP,Bool.and_eq_true,decide_eq_true_eq];constructor
 ·rintro⟨⟨⟨⟨a,b⟩,c⟩,d⟩,e⟩;exact⟨a,b,c,d,e⟩
 ·rintro⟨a,b,c,d,e⟩;exact⟨⟨⟨⟨a,b⟩,c⟩,d⟩,e⟩
namespace Mm
def size(m:Mm):Nat:=br m.Fq m.slots
def base(m:Mm):Nat:=aN m.Fq m.slots
def FH(m:Mm)(a n:Nat):Nat:=
 if n<1\/m.size<a+n then 0 else if m.k.all (a/4) ((a+n+3)/4-a/4) (m.k.get (a/4))=true then m.k.get (a/4)else 0
def Oq(w:Nat):Bool:=Nat.beq w 1||Nat.beq w 2||Nat.beq w 4||Nat.beq w 8
def may(m:Mm)(a w kind:Nat):Bool:=Oq w&&Nat.beq (a%w) 0&& !Nat.beq kind 0&&Nat.beq (m.FH a w) kind
def ld(a w kind:Nat)(m:Mm):Option Nat:=if m.may a w kind=true then some (m.b.load a w)else none
def st(a w kind v:Nat)(m:Mm):Option Mm:=if m.may a w kind=true/\v<256^w then some {m with b:=m.b.store a w v}else none
def GA(f:Nat):Nat:= [8,12,16,20,24,28,32,36,40,44,48,52,56,60,64,68,72,80,84,88,92].getD f 0
def Gl(f:Nat):Nat:=if f=16 then 8 else 4
def root(f:Nat)(m:Mm):Option Nat:=m.ld (GA f) (Gl f) 2
def FG(f v:Nat)(m:Mm):Option Mm:=m.st (GA f) (Gl f) 2 v
def row(m:Mm)(a n kind:Nat):Bool:=decide (a+n<=m.size)&&(List.range n).all λi=>m.may (a+i) 1 kind
def zero(a n kind:Nat)(m:Mm):Option Mm:=if m.row a n kind=true then some {m with b:=m.b.fill a n 0}else none
def mark(a n kind:Nat)(m:Mm):Option Mm:=if a+n<=m.size/\a%4=0/\n%4=0/\kind<=8 then some {m with k:=m.k.fill (a/4) (n/4) kind}else none
end Mm
theorem bu{s n:Nat}(h:LP s n=true):br s n<=200000/\8000<=br s n/\br s n%16=0/\aN s n%16=0/\az s+n*4<=aN s n/\aN s n+s*1024=br s n:=by
 obtain⟨h1,h2,h3,h4,h5⟩:=bB.1 h;unfold br aN az;omega
def cx(s off w:Nat)(m:Mm):Option Nat:=if s<m.Fq then m.ld (128+s*16+off) w 3 else none
def dQ(s off w v:Nat)(m:Mm):Option Mm:=if s<m.Fq then m.st (128+s*16+off) w 3 v else none
def fy(c prev next:Nat)(m:Mm):Option Mm:=if 0<prev then dQ (prev-1) 8 4 next m else m.FG (3+c) next
def nK(c s prev next:Nat)(m:Mm):Option Mm:=
 (dQ s 12 4 prev m).bind λm1=>(dQ s 8 4 next m1).bind λm2=>(if 0<next then dQ (next-1) 12 4 (s+1) m2 else some m2).bind λm3=>fy c prev (s+1) m3
def fm(c:Nat):Nat->Mm->Option Mm
 |0,m=>some m
 |k+1,m=>(m.FG (3+c) 0).bind (fm (c+1) k)
def Hv:Nat->Mm->Option Mm
 |0,m=>some m
 |k+1,m=>(m.root 3).bind λf=>(nK 0 k 0 f m).bind (Hv k)
def gg(m:Mm):Option Mm:=(m.zero 128 (m.Fq*16) 3).bind λm1=>(fm 0 10 m1).bind λm2=>Hv m.Fq m2
def S8:List Nat:= [0,32,48,64,96,128,192,256,384,512]
def dM(i:Nat):Nat:=S8.getD i 0
def ai(c:Nat):Nat:=if 1<=c/\c<=9 then 1024/dM c else 0
def jS(n:Nat):Nat:=S8.findIdx λz=>decide (n<=z)
def YE(n:Nat):Nat×Int:=if n<1 then(0,2)else if jS n<10 then(jS n,0)else(0,22)
def bD(n:Nat):Nat×Int:=if 480<n then(0,22)else YE (32+n)
def bl(n:Nat):Nat×Int:=if n<1\/63<n then(0,20)else YE (16+n)
structure Sl where
 Ft:Nat
 live:Nat
 free:Nat
 next:Nat
 prev:Nat
def dR(s:Nat)(m:Mm):Option Sl:=(cx s 0 2 m).bind λc=>(cx s 2 2 m).bind λl=>(cx s 4 4 m).bind λf=>(cx s 8 4 m).bind λn=>(cx s 12 4 m).bind λp=>some ⟨c,l,f,n,p⟩
def ax(m:Mm)(s:Nat):Nat:=aN m.Fq m.slots+s*1024
def ae(c:Nat):Nat:=if 1<=c/\c<=9 then dM c else 0
def fA(c:Nat):Nat:=if 1<=c/\c<=9 then 1024%dM c else 0
def cC(l:List Rn):Nat:=match l.getLast? with|none=>0|some r=>r.a+r.n
def cD(l:List Rn)(e k:Nat):List Rn:=if cC l<e then l++ [⟨cC l,e-cC l,k⟩]else l
def kH(s n:Nat):List Rn:=cD (cD (cD (cD (cD (cD [] 8 1) 128 2) (az s) 3) (az s+n*4) 4) (aN s n) 8) (br s n) 7
def gG(l:List Rn):Tr:=l.foldl (λt r=>t.fill (r.a/4) (r.n/4) r.k) Tr.nil
def yT(s n:Nat):Nat->Tr
 |0=>Tr.nil
 |1=>Tr.nil.store 8 4 1129270338
 |2=>(Tr.nil.store 8 4 1129270338).store 12 4 s
 |_=>((Tr.nil.store 8 4 1129270338).store 12 4 s).store 16 4 n
def fB(s n:Nat):Mm:=⟨s,n,yT s n 3,gG (kH s n)⟩
def kQ(m:Mm):Option Mm:=(m.FG 13 0).bind λm1=>(m1.FG 14 0).bind λm2=>m2.FG 15 0
def ja(m:Mm):Option Mm:=m.zero (az m.Fq) (m.slots*4) 4
def bP(m:Mm):Option Mm:=(gg m).bind λm1=>(kQ m1).bind λm2=>(ja m2).bind λm3=>(m3.FG 17 0).bind λm4=>m4.FG 16 0
end Go.FC
namespace Go.FP
def gR(h b:Nat):Nat:=(h^^^b)*16777619%4294967296
def bJ(h:Nat)(l:List UInt8):Nat:=l.foldl (λh b=>gR h b.toNat) h
theorem oz(h b:Nat):gR h b<4294967296:=Nat.mod_lt _ (by omega)
theorem kR(h:Nat):bJ h []=h:=rfl
theorem gh(h:Nat)(b:UInt8)(l:List UInt8):bJ h (b::l)=bJ (gR h b.toNat) l:=rfl
theorem qy(h:Nat)(l m:List UInt8):bJ h (l++m)=bJ (bJ h l) m:=List.foldl_append
theorem nL(h:Nat)(l:List UInt8)(b:UInt8):bJ h (l++ [b])=gR (bJ h l) b.toNat:=by rw[qy,gh,kR]
theorem mD{h:Nat}(hh:h<4294967296)(l:List UInt8):bJ h l<4294967296:=by
 induction l generalizing h with
 |nil=>exact hh
 |cons b l ih=>exact ih (oz _ _)
def hi(X j:Nat):Nat:=X/2^j*2^j
attribute [irreducible] gR
end Go.FP
namespace Go.Fy
def kD(c:UInt8):UInt8:=if 65<=c.toNat/\c.toNat<=90 then c+32 else c
def FI(l:List UInt8):List UInt8:=l.map kD
def qz(c:Int):Int:=if 65<=c/\c<=90 then c+32 else c
theorem wh(c:UInt8):qz (c.toNat:Int)=((kD c).toNat:Int):=by
 unfold qz kD;by_cases h:65<=c.toNat/\c.toNat<=90
 ·rw[if_pos (by omega),if_pos h,UInt8.toNat_add];simp;omega
 ·rw[if_neg (by omega),if_neg h]
theorem yU(c:UInt8):kD (kD c)=kD c:=by
 have h:∀n:Fin 256,kD (kD (UInt8.ofNat n.val))=kD (UInt8.ofNat n.val):=by decide+kernel
 have:=h ⟨c.toNat,UInt8.toNat_lt c⟩;simpa using this
theorem yV(l:List UInt8):FI (FI l)=FI l:=by
 unfold FI;rw[List.map_map];exact List.map_congr_left λc _=>yU c
theorem gi(l:List UInt8):(FI l).length=l.length:=by simp[FI]
theorem oB(l:List UInt8)(k:Nat)(h:k<l.length):FI (l.take (k+1))=FI (l.take k)++ [kD l[k]]:=by
 rw[List.take_succ_eq_append_getElem h,FI,List.map_append];rfl
end Go.Fy
namespace Go.FP
open Go.Fy
def sG(h t:Nat):Nat:=gR (gR h (t%256)) (t/256)
theorem xI(h t:Nat):sG h t<4294967296:=oz _ _
def cE(p:Nat)(l:List UInt8):Nat:=gR (bJ p (FI l)) 46
theorem jT(p:Nat)(l:List UInt8):cE p l<4294967296:=oz _ _
end Go.FP
namespace Go.Fy
def okB(c:UInt8):Bool:=decide (33<=c.toNat)&&decide (c.toNat<=126)&&decide (c.toNat≠46)
def aG(l:List UInt8):Int:=if l.length<1\/63<l.length then 20 else if l.all okB then 0 else 20
theorem qL{l:List UInt8}{k:Nat}(hk:k<l.length)(h:okB l[k]=false):l.all okB=false:=by
 rw[Bool.eq_false_iff];intro e;rw[List.all_eq_true]at e;rw[e _ (List.getElem_mem hk)]at h;cases h
theorem AT{l:List UInt8}(h:∀k,(hk:k<l.length)->okB l[k]=true):l.all okB=true:=by
 rw[List.all_eq_true];intro x hx;obtain⟨k,hk,rfl⟩:=List.getElem_of_mem hx;exact h k hk
end Go.Fy
namespace Go.Fz
open Go.Fy
def FQ:List (List UInt8)->Nat
 | []=>1
 |s::r=>s.length+1+FQ r
theorem Mt:∀(l:List (List UInt8)) (s:List UInt8),FQ (l++ [s])=FQ l+(s.length+1)
 | [],s=>by simp only [List.nil_append,FQ];omega
 |x::r,s=>by
  have:=Mt r s;simp only [List.cons_append,FQ];omega
theorem Ir:∀l:List (List UInt8),l.length+1<=FQ l
 | []=>by simp[FQ]
 |s::r=>by
  have:=Ir r;simp only [FQ,List.length_cons];omega
section
variable{b:List UInt8}{at_ begin_ next:Nat}{l:List (List UInt8)}
end
theorem fC{s:List UInt8}(h:aG s=0):1<=s.length/\s.length<=63/\s.all okB=true:=by
 unfold aG at h;split at h
 ·cases h
 ·split at h
  ·exact⟨by omega,by omega,by assumption⟩
  ·cases h
theorem Kx:∀(a c:List (List UInt8)),FQ (a++c)+1=FQ a+FQ c
 | [],c=>by simp only [List.nil_append,FQ];omega
 |s::r,c=>by
  have:=Kx r c;simp only [List.cons_append,FQ];omega
theorem tail_cons(sep:List UInt8)(x:List UInt8)(r:List (List UInt8)):Lib.joinTail sep (x::r)=sep++x++Lib.joinTail sep r:=by
 simp[Lib.joinTail]
def aI(l:List (List UInt8)):Int:=if l.all (λs=>aG s==0)then(if 255<FQ l then 21 else 0)else 20
theorem QD(s:List UInt8):aG s=0\/aG s=20:=by
 unfold aG;split
 ·exact .inr rfl
 ·split
  ·exact .inl rfl
  ·exact .inr rfl
def F5:List UInt8->List (List UInt8)
 | []=> [[]]
 |c::r=>if c=46 then []::F5 r else match F5 r with
  | []=> [[c]]
  |x::xs=>(c::x)::xs
theorem dS(r:List UInt8):F5 (46::r)= []::F5 r:=by rw[F5,if_pos rfl]
theorem cF{c:UInt8}(h:c≠46){r x:List UInt8}{xs:List (List UInt8)}(e:F5 r=x::xs):F5 (c::r)=(c::x)::xs:=by rw[F5,if_neg h,e]
theorem Ia:∀s:List UInt8,∃x xs,F5 s=x::xs
 | []=>⟨_,_,rfl⟩
 |c::r=>by
  obtain⟨x,xs,e⟩:=Ia r;by_cases h:c=46
  ·subst h;exact⟨_,_,dS r⟩
  ·exact⟨_,_,cF h e⟩
theorem NS:∀s:List UInt8,Lib.split s [46]=F5 s
 | []=>by
  rw[Lib.split,Lib.count_miss (by simp[Lib.index])];rfl
 |c::r=>by
  have ih:=NS r;unfold Lib.split at ih⊢;by_cases h:c=46
  ·subst h;have QE:Lib.index (46::r) [46]=0:=by rw[Lib.index];simp[List.isPrefixOf]
   rw[Lib.count_cons_eq,Nat.add_comm,Lib.splitK,QE,dS,<-ih];simp
  ·rw[Lib.count_cons_ne c 46 r h];have hp:([46]:List UInt8).isPrefixOf (c::r)=false:=by simp[List.isPrefixOf];exact λe=>h e.symm
   have QE:Lib.index (c::r) [46]=if Lib.index r [46]== -1 then-1 else Lib.index r [46]+1:=by rw[Lib.index,hp];simp
   by_cases hm:Lib.index r [46]= -1
   ·rw[Lib.count_miss hm]at ih⊢;rw[Lib.splitK]at ih⊢;rw[cF h ih.symm]
   ·have Gw:=Lib.index_ge r [46];obtain⟨j,hj⟩:∃j:Nat,Lib.index r [46]=j:=⟨(Lib.index r [46]).toNat,by omega⟩;rw[Lib.count_hit (by simp) hj,Nat.add_comm,Lib.splitK]at ih⊢;rw[QE];rw[hj]at ih⊢;have e1:(((j:Int)== -1)=false):=by rw[Fo];omega
    have e2:(((j:Int)+1== -1)=false):=by rw[Fo];omega
    have e3:((j:Int)+1).toNat=j+1:=by omega
    simp only [e1,e2,e3,Bool.false_eq_true,if_false,Int.toNat_natCast,List.length_cons,List.length_nil,Nat.add_zero,Nat.zero_add]at ih⊢;rw[cF h ih.symm];simp
theorem Pg:∀n:Fin 256,(kD (UInt8.ofNat n.val)=46↔UInt8.ofNat n.val=46):=by decide+kernel
theorem xJ(c:UInt8):kD c=46↔c=46:=by
 have:=Pg ⟨c.toNat,UInt8.toNat_lt c⟩;simpa using this
theorem Mu:∀s:List UInt8,F5 (FI s)=(F5 s).map FI
 | []=>rfl
 |c::r=>by
  obtain⟨x,xs,e⟩:=Ia r;have ih:=Mu r;have e0:FI (c::r)=kD c::FI r:=rfl;rw[e0];by_cases h:c=46
  ·subst h;rw[(xJ 46).2 rfl,dS,dS,ih];rfl
  ·rw[e]at ih;rw[cF (λe=>h ((xJ c).1 e)) ih,cF h e];rfl
theorem Mv:∀s:List UInt8,Lib.join (F5 s) [46]=s
 | []=>by simp[F5,Lib.join_one]
 |c::r=>by
  obtain⟨x,xs,e⟩:=Ia r;have ih:=Mv r;rw[e]at ih;by_cases h:c=46
  ·subst h;rw[dS,e,Lib.join_cons,tail_cons];rw[Lib.join_cons]at ih;simp[<-ih]
  ·rw[cF h e];rw[Lib.join_cons]at ih⊢;rw[List.cons_append,ih]
def bi(s:List UInt8):List UInt8:=Lib.trimSuffix s [46]
theorem oC(s:List UInt8):(bi s).length<=s.length:=Lib.trimSuffix_le _ _
def aC(s:List UInt8):List (List UInt8)×Int:=
 if s= [46]then([],0)else if aI (F5 (FI (bi s)))=0 then(F5 (FI (bi s)),0)else([],aI (F5 (FI (bi s))))
def cY(l:List (List UInt8)):List UInt8×Int:=if aI l=0 then(if l= []then([46],0)else(Lib.join l [46],0))else([],aI l)
theorem bH{l:List (List UInt8)}(h:aI l=0):∀s∈l,aG s=0:=by
 unfold aI at h;split at h
 ·rename_i ha
  rw[List.all_eq_true]at ha;intro s hs;simpa using ha s hs
 ·cases h
theorem bQ{l:List (List UInt8)}(h:aI l=0):FQ l<=255:=by
 unfold aI at h;split at h
 ·split at h
  ·cases h
  ·omega
 ·cases h
theorem yW{l:List (List UInt8)}(h1:∀s∈l,aG s=0)(h2:FQ l<=255):aI l=0:=by
 unfold aI;rw[if_pos (by rw[List.all_eq_true];intro s hs;simpa using h1 s hs),if_neg (by omega)]
theorem tL{s:List UInt8}(h:(aC s).2=0):aI (aC s).1=0/\(aC s).1.map FI=(aC s).1/\(cY (aC s).1).1.length<=s.length:=by
 unfold aC at h⊢;split
 ·rename_i e
  subst e;exact⟨rfl,rfl,by decide⟩
 ·rename_i e
  rw[if_neg e]at h;split
  ·rename_i hc
   refine⟨hc,?_,?_⟩
   ·rw[Mu,List.map_map];apply List.map_congr_left;intro x _;exact yV x
   ·obtain⟨x,xs,es⟩:=Ia (FI (bi s));have hj:=Mv (FI (bi s));have hle:=oC s;rw[cY,if_pos hc,if_neg (by rw[es];simp)];show(Lib.join (F5 (FI (bi s))) [46]).length<=_;rw[hj,gi];exact hle
  ·rename_i hc
   rw[if_neg hc]at h;exact absurd h hc
theorem LC:∀s:List UInt8,FQ (F5 s)=s.length+2
 | []=>rfl
 |c::r=>by
  obtain⟨x,xs,e⟩:=Ia r;have ih:=LC r;by_cases h:c=46
  ·subst h;rw[dS];simp only [FQ,List.length_nil,List.length_cons];omega
  ·rw[cF h e];rw[e]at ih;simp only [FQ,List.length_cons]at ih⊢;omega
theorem KY:∀ {l:List (List UInt8)} {s:List UInt8},s∈l->s.length<FQ l
 |x::r,s,h=>by
  rcases List.mem_cons.1 h with rfl|h
  ·simp only [FQ];omega
  ·have:=KY h;simp only [FQ];omega
theorem Kz:∀r:List (List UInt8),(Lib.joinTail [46] r).length+1<=FQ r
 | []=>by simp[Lib.joinTail,FQ]
 |s::r=>by
  have:=Kz r;rw[tail_cons];simp only [FQ,List.length_append,List.length_cons,List.length_nil];omega
theorem TI:∀l:List (List UInt8),(Lib.join l [46]).length<=FQ l
 | []=>by simp[Lib.join_nil]
 |s::r=>by
  have:=Kz r;rw[Lib.join_cons];simp only [FQ,List.length_append];omega
end Go.Fz
namespace Go.FC
def cZ(l:List (List UInt8)):Nat:=(l.map λx=>2+min x.length 480).sum
def bS(l:List (List UInt8)):Nat×Int:=if l.length<1\/16<l.length then(0,2)else if 480<2+cZ l then(0,22)else(2+cZ l,0)
theorem yX{l:List (List UInt8)}{k:Nat}(h:k<l.length):cZ (l.take (k+1))=cZ (l.take k)+(2+min l[k].length 480):=by
 rw[cZ,cZ,List.take_succ_eq_append_getElem h,List.map_append,List.sum_append];simp
theorem xK(l:List (List UInt8)):cZ l<=482*l.length:=by
 induction l with
 |nil=>simp[cZ]
 |cons x r ih=>
  have:cZ (x::r)=(2+min x.length 480)+cZ r:=by simp[cZ]
  rw[this,List.length_cons];omega
end Go.FC
namespace Go.Colm
open Go.RowKit
theorem ap{w:World}{a:Addr}{v:Value}(h:w.cell? a=some v):a.block<w.heap.size:=by
 rcases Nat.lt_or_ge a.block w.heap.size with h'|h'
 ·exact h'
 ·simp[World.cell?,Array.getElem?_eq_none h']at h
def aM(w:World)(A:Option Addr)(vs:List Value):Prop:=
 ∀i v,vs[i]? =some v->∃b off,A=some ⟨b,off,none⟩/\w.cell? ⟨b,off+i,none⟩=some v
theorem aM.nil(w:World)(A:Option Addr):aM w A []:=λi v h=>by simp at h
theorem aM.keep{w w':World}{A:Option Addr}{vs:List Value}(h:aM w A vs)(hk:∀p:Addr,p.block<w.heap.size->w'.cell? p=w.cell? p):aM w' A vs:=λi v hv=>by
 obtain⟨b,off,e,hc⟩:=h i v hv;exact⟨b,off,e,(hk _ (ap hc)).trans hc⟩
theorem aM.below{w w':World}{A:Option Addr}{vs:List Value}(h:aM w A vs)(hb:Below w.heap.size w w'):aM w' A vs:=h.keep λ_ hp=>hb.cell hp
theorem aM.drewN{w:World}{A:Option Addr}{vs:List Value}(h:aM w A vs)(n:Nat):aM (w.drewN n) A vs:=h
def ay(l:List UInt8):List Value:=l.map λb=> .int .u8 (b.toNat:Int)
theorem kI(l:List UInt8):(ay l).length=l.length:=by simp[ay]
theorem aM.byte{w:World}{A:Option Addr}{l:List UInt8}(h:aM w A (ay l)){k:Nat}(hk:k<l.length):
  ∃b off,A=some ⟨b,off,none⟩/\w.cell? ⟨b,off+k,none⟩=some (.int .u8 (l[k].toNat:Int)):=
 h k _ (by simp[ay,hk])
theorem dv{B:Nat}{w w':World}(h:Below B w w')(n:Nat):Below B w (w'.drewN n):=⟨h.os,h.tape,h.output,h.size,h.block⟩
theorem dz(w:World)(n:Nat):Below w.heap.size w (w.drewN n):=dv (Below.refl _ _) n
theorem ah{w w1 w2:World}(h:Below w.heap.size w w1)(k:Below w1.heap.size w1 w2):Below w.heap.size w w2:=h.trans (k.mono h.size)
theorem aH{k:IntKind}{a b:Int}(h:a=b):Ending.returned (.int k a)= .returned (.int k b):=by rw[h]
theorem aq{a b:Bool}(h:a=b):Ending.returned (.bool a)= .returned (.bool b):=by rw[h]
theorem Dj{a b:List UInt8}(h:a=b):Ending.returned (.string ⟨a.toArray⟩)= .returned (.string ⟨b.toArray⟩):=by rw[h]
theorem kS(b:UInt8):(0:Int)<=(b.toNat:Int)/\(b.toNat:Int)<256:=by
 have:=UInt8.toNat_lt b;omega
theorem qA(s:ByteArray)(k:Nat)(h:k<s.size):s.data.toList.take (k+1)=s.data.toList.take k++ [s[k]]:=by
 rw[List.take_succ_eq_append_getElem (by simpa using h)];rfl
theorem tM(w:World)(o:Obj):(w.alloc o).heap[w.heap.size]? =some o:=heap_alloc_new w o
theorem aM.new(w:World)(T:TypeId)(cs:Array Value):aM (w.alloc (.cells cs T)) (some ⟨w.heap.size,0,none⟩) cs.toList:=λi v h=>by
 refine⟨_,0,rfl,?_⟩;have hh:=tM w (.cells cs T);simp only [World.cell?,hh,Nat.zero_add];simpa using h
theorem il{x:Int}(h0:0<=x)(h1:x<256):((UInt8.ofNat x.toNat).toNat:Int)=x:=by
 simp only [UInt8.toNat_ofNat'];omega
theorem aM.new2(w:World)(T:TypeId)(x y:Int)(x0:0<=x)(x1:x<256)(y0:0<=y)(y1:y<256):
  aM (w.alloc (.cells #[.int .u8 x,.int .u8 y] T)) (some ⟨w.heap.size,0,none⟩) (ay [UInt8.ofNat x.toNat,UInt8.ofNat y.toNat]):=by
 have h:=aM.new w T #[.int .u8 x,.int .u8 y];have e:ay [UInt8.ofNat x.toNat,UInt8.ofNat y.toNat]= [.int .u8 x,.int .u8 y]:=by simp only [ay,List.map_cons,List.map_nil,il x0 x1,il y0 y1]
 rw[e];exact h
theorem aM.new1(w:World)(T:TypeId)(x:Int)(x0:0<=x)(x1:x<256):
  aM (w.alloc (.cells #[.int .u8 x] T)) (some ⟨w.heap.size,0,none⟩) (ay [UInt8.ofNat x.toNat]):=by
 have h:=aM.new w T #[.int .u8 x];have e:ay [UInt8.ofNat x.toNat]= [.int .u8 x]:=by simp only [ay,List.map_cons,List.map_nil,il x0 x1]
 rw[e];exact h
theorem eW{w:World}{base:Nat}{e:TypeId}{v:Value}{n:Nat}{xs:List Value}(h:w.ownsRow base e 1 v n xs):∃A c,v= .slice A n c/\aM w A xs:=by
 rcases h with⟨hl,h⟩;rcases h with⟨rfl,rfl⟩|⟨g,cap,Kb,rfl,_,hg,hn,_,hcs,ht⟩
 ·have:xs= []:=List.eq_nil_of_length_eq_zero (by simpa using hl);subst this;exact⟨none,0,rfl,aM.nil _ _⟩
 ·refine⟨_,cap,rfl,λi v hv=>⟨g,0,rfl,?_⟩⟩;have hi:i<xs.length:=(List.getElem?_eq_some_iff.1 hv).1;rw[<-ht,List.getElem?_take_of_lt (by omega)]at hv;simp only [World.cell?,hg,Nat.zero_add];simpa using hv
theorem dm(w:World)(base:Nat)(e:TypeId)(size:Nat):w.ownsRow base e size (.slice none 0 0) 0 []:=⟨by simp,.inl ⟨rfl,rfl⟩⟩
theorem lH{P:Program}{src e:TypeId}(hs:P.underlying src=some (.slice e))(he:P.underlying e=some (.int .u8))(w:World)(A:Option Addr)(l:List UInt8)(c:Nat)(hr:aM w A (ay l))(hA:∀a,A=some a->a.spot=none)
  (dst:TypeId) (hd:P.underlying dst=some .string):(convert src dst (.slice A l.length c)).run P w= .ok (.string ⟨l.toArray⟩) w:=by
 rcases A with _|⟨b,off,spot⟩
 ·have hl:l= []:=by
   rcases l with _|⟨x,l⟩
   ·rfl
   ·obtain⟨b,off,h,_⟩:=hr 0 _ rfl;cases h
  subst hl;exact run_convert_bytes_nil w src e hs he _ c dst hd
 ·have:=hA _ rfl;simp only at this;subst this;have hc:∀i,i<l.length->w.cell? ⟨b,off+i,none⟩=some (.int .u8 ((l.map λx=>(x.toNat:Int)).getD i 0)):=λi hi=>by
   obtain⟨b',off',h,hc⟩:=hr.byte hi;cases h;rw[hc];simp[hi]
  have h:=run_convert_bytes_arg w src e hs he b off l.length c (l.map λx=>(x.toNat:Int)) (by simp) hc dst hd;rw[h];congr 1;congr 1;simp only [strOfNums,List.map_map];congr 2
  conv=>rhs;rw[<-List.map_id l]
  exact List.map_congr_left λx _=>by simp
theorem mE(w:World)(e:TypeId)(s:ByteArray):Below w.heap.size w (Lib.bytesWorld w e s):=
 ⟨rfl,rfl,rfl,by rw[Lib.bytesWorld_size];omega,λj hj=>Lib.bytesWorld_at_old w e s j hj⟩
def fD(A:Option Addr)(c k s:Nat):Option Addr:=if c=k then A else A.map (·.add (k*s))
theorem lI{P:Program}{t e:TypeId}{s:Nat}(ht:P.underlying t=some (.slice e))(hs:∀w,(sizeOf e).run P w= .ok s w)(A:Option Addr)(n c:Nat)(kd:IntKind)(k:Int)(h0:0<=k)(h1:k<=n)(w:World):
  (Instr.slice t (.slice A n c) (some (.int kd k)) none none).run P w= .ok (.slice (fD A c k.toNat s) (n-k.toNat) (c-k.toNat)) w:=by
 simp[Instr.slice,run_underlying ht,Instr.sliceBounds,run_sliceBound w kd k n _ h0 h1,hs,fD]
theorem aM.cut{w:World}{A:Option Addr}{vs:List Value}(h:aM w A vs){c k s:Nat}(hc:vs.length<=c*s):aM w (fD A c k s) (vs.drop (k*s)):=λi v hv=>by
 rw[List.getElem?_drop]at hv;have hi:=(List.getElem?_eq_some_iff.1 hv).1;obtain⟨b,off,rfl,hcell⟩:=h _ v hv;have JA:c≠k:=by
  rintro rfl;omega
 rw[fD,if_neg JA];by_cases hz:k*s=0
 ·rw[hz]at hcell⊢;exact⟨b,off,by simp[Addr.add],by simpa using hcell⟩
 ·exact⟨b,off+k*s,by simp[Addr.add,hz],by rw[Nat.add_assoc];exact hcell⟩
def Whole(w:World)(g:Nat)(t:TypeId)(cs:Array Value):Prop:=w.heap[g]? =some (.cells cs t (0,0))
section
variable{w w':World}{g:Nat}{t:TypeId}{cs:Array Value}
theorem Whole.lt(h:Whole w g t cs):g<w.heap.size:=by
 rcases Nat.lt_or_ge g w.heap.size with h'|h'
 ·exact h'
 ·unfold Whole at h;rw[Array.getElem?_eq_none h']at h;cases h
theorem Whole.cell(h:Whole w g t cs)(i:Nat):w.cell? ⟨g,i,none⟩=cs[i]? :=by
 unfold Whole at h;simp[World.cell?,h]
theorem Whole.frozen(h:Whole w g t cs)(i:Nat):w.frozen? ⟨g,i,none⟩=false:=by
 unfold Whole at h;simp[World.frozen?,h]
theorem Whole.new(w:World)(t:TypeId)(cs:Array Value):Whole (w.alloc (.cells cs t)) w.heap.size t cs:=heap_alloc_new w _
theorem Whole.put(h:Whole w g t cs)(i:Nat)(u:Value):Whole (w.setCell ⟨g,i,none⟩ u) g t (cs.setIfInBounds i u):=by
 unfold Whole at h⊢;simp[World.setCell,Array.getElem?_modify,h]
end
structure aa(S:Nat->Prop)(w w':World):Prop where
 os:w'.os=w.os
 tape:w'.tape=w.tape
 output:w'.output=w.output
 size:w.heap.size<=w'.heap.size
 block:∀k,k<w.heap.size->¬S k->w'.heap[k]? =w.heap[k]?
section
variable{S S':Nat->Prop}{w w' w'':World}
theorem aa.refl(S:Nat->Prop)(w:World):aa S w w:=⟨rfl,rfl,rfl,Fm _,λ_ _ _=>rfl⟩
theorem aa.trans(h:aa S w w')(k:aa S w' w''):aa S w w'':=
 ⟨k.os.trans h.os,k.tape.trans h.tape,k.output.trans h.output,Nat.le_trans h.size k.size,λi hi hs=>(k.block i (Nat.lt_of_lt_of_le hi h.size) hs).trans (h.block i hi hs)⟩
theorem aa.mono(h:aa S w w')(hs:∀k,k<w.heap.size->S k->S' k):aa S' w w':=⟨h.os,h.tape,h.output,h.size,λk hk hn=>h.block k hk λe=>hn (hs k hk e)⟩
theorem aa.drewN(h:aa S w w')(n:Nat):aa S w (w'.drewN n):=⟨h.os,h.tape,h.output,h.size,h.block⟩
theorem aa.drew(h:aa S w w'):aa S w w'.drew:=⟨h.os,h.tape,h.output,h.size,h.block⟩
theorem aa.alloc(h:aa S w w')(o:Obj):aa S w (w'.alloc o):=
 ⟨h.os,h.tape,h.output,Nat.le_trans h.size (by simp),λi hi hs=>(Below.heap_alloc w' o i (Nat.lt_of_lt_of_le hi h.size)).trans (h.block i hi hs)⟩
theorem aa.setCell(h:aa S w w'){p:Addr}(hp:S p.block\/w.heap.size<=p.block)(u:Value):aa S w (w'.setCell p u):=
 ⟨h.os,h.tape,h.output,by simpa[World.setCell]using h.size,λi hi hs=>(Below.heap_setCell w' p u i (by
  rintro rfl;rcases hp with hp|hp
  ·exact hs hp
  ·omega)).trans (h.block i hi hs)⟩
theorem aa.below(h:Below w.heap.size w w')(S:Nat->Prop):aa S w w':=⟨h.os,h.tape,h.output,h.size,λk hk _=>h.block k hk⟩
theorem aa.F1{B:Nat}(h:aa S w w')(hB:B<=w.heap.size)(hs:∀k,k<B->¬S k):Below B w w':=⟨h.os,h.tape,h.output,h.size,λk hk=>h.block k (by omega) (hs k hk)⟩
theorem aa.grown{row:Option Nat}(h:w.grownBy w' row):aa (λk=>row=some k) w w':=⟨h.os,h.tape,h.output,h.size,λk hk hn=>h.block k hk λe=>hn e.symm⟩
theorem aa.whole{g:Nat}{t:TypeId}{cs:Array Value}(h:aa S w w')(hg:Whole w g t cs)(hs:¬S g):Whole w' g t cs:=(h.block g hg.lt hs).trans hg
theorem aa.cell(h:aa S w w'){p:Addr}{v:Value}(hc:w.cell? p=some v)(hs:¬S p.block):w'.cell? p=some v:=by
 rw[World.cell?_of_block (w:=w) (h.block p.block (ap hc) hs)];exact hc
end
open Go.ChangeMaps Go.MapKept Go.WideElems
open Go.Maps (Keyed)
section
variable{w w':World}{P:Program}{k t e:TypeId}{b:Nat}{l:List (Value×Value)}
end
section
variable{P:Program}(w:World){ops:Array Oper}{rest:List Oper}{o:Oper}{a:Act}{Q:Exit->Act->World->Prop}
end
end Go.Colm
namespace Go.Proofs.YtifkphcaelafjaaGreatDoor
open Tryz
open Go.RowKit Go.Colm Go.FC
def Sz(w:World):Prop:=∀i,i<10->w.cell? ⟨1,i,none⟩=some (.int .i64 (dM i:Nat))
theorem Sz.lt{w:World}(h:Sz w):1<w.heap.size:=ap (h 0 (by decide))
theorem Sz.keep{w w':World}(h:Sz w)(hk:w'.heap[1]? =w.heap[1]?):Sz w':=λi hi=>(World.cell?_of_block (a:=⟨1,i,none⟩) hk).trans (h i hi)
theorem Sz.below{w w':World}(h:Sz w)(hb:Below w.heap.size w w'):Sz w':=h.keep (hb.block _ h.lt)
theorem sH(c:Int)(w:World):Calls prog 225 #[.int .i64 c] w λe w'=>e= .returned (.bool (decide (1<=c/\c<=9)))/\w'=w:=by
 go_in;by_cases h1:1<=c
 ·by_cases h2:c<=9
  ·go_wp2;go_ret;exact⟨aq (by simp[h1,h2]),rfl⟩
  ·go_wp2;go_ret;exact⟨aq (by simp[h1,h2]),rfl⟩
 ·go_wp2;go_ret;exact⟨aq (by simp;omega),rfl⟩
theorem fE(c:Nat)(w:World)(hs:Sz w):Calls prog 121 #[.int .i64 (c:Int)] w λe w'=>e= .returned (.int .i64 (ai c:Nat))/\w'=w:=by
 have HS:=Fh hs;clear hs;go_in;go_wp2_with fail;refine(sH _ _).mono ?_;rintro e w1⟨rfl,rfl⟩;by_cases h:1<=c/\c<=9
 ·have hc:=HS.o c (by omega);have hd:decide ((1:Int)<=(c:Int)/\(c:Int)<=9)=true:=by simp;omega
  obtain⟨h1,h2⟩:=h;have hz:((dM c:Nat):Int)≠0:=by
   have:c=1\/c=2\/c=3\/c=4\/c=5\/c=6\/c=7\/c=8\/c=9:=by omega
   rcases this with rfl|rfl|rfl|rfl|rfl|rfl|rfl|rfl|rfl<;>decide
  rw[hd];obtain⟨z,Vu⟩:=Fp (dM c);rw[<-Vu]at hc hz;have HZ:=Fh Vu;clear Vu;go_wp2;go_ret;refine⟨aH ?_,rfl⟩;rw[ai,if_pos ⟨h1,h2⟩,<-HZ.o]
  first|rfl|simp|omega
 ·have hd:decide ((1:Int)<=(c:Int)/\(c:Int)<=9)=false:=by simp;omega
  rw[hd];go_wp2;go_ret;refine⟨aH ?_,rfl⟩;rw[ai,if_neg h];rfl
theorem wj(n k:Nat)(hk:k<10)(h:∀j,j<k->¬n<=dM j)(h2:n<=dM k):jS n=k:=by
 have hlen:S8.length=10:=rfl;have e:∀j (hj:j<S8.length),S8[j]=dM j:=λj hj=>by simp[dM,List.getD_eq_getElem?_getD,hj]
 rw[jS,List.findIdx_eq (by rw[hlen];exact hk)];refine⟨by rw[e];simpa using h2,λj hj=> ?_⟩;have:=h j hj;rw[e];simpa using this
theorem sI(n:Nat)(h:∀j,j<10->¬n<=dM j):jS n=10:=by
 have hlen:S8.length=10:=rfl;have e:∀j (hj:j<S8.length),S8[j]=dM j:=λj hj=>by simp[dM,List.getD_eq_getElem?_getD,hj]
 rw[jS,List.findIdx_eq_length.2]
 ·rfl
 ·intro x hx;obtain⟨j,hj,rfl⟩:=List.getElem_of_mem hx;rw[e];simpa using h j (by rw[<-hlen];exact hj)
theorem sJ(i:Nat)(h:i<10)(W:World):(Instr.index 252 (.agg #[.int .i64 0,.int .i64 32,.int .i64 48,.int .i64 64,.int .i64 96,.int .i64 128,.int .i64 192,.int .i64 256,.int .i64 384,.int .i64 512]) (.int .i64 (i:Int))).run prog W= .ok (.int .i64 (dM i:Nat)) W:=by
 have hc:i=0\/i=1\/i=2\/i=3\/i=4\/i=5\/i=6\/i=7\/i=8\/i=9:=by omega
 rcases hc with rfl|rfl|rfl|rfl|rfl|rfl|rfl|rfl|rfl|rfl<;>simp[Instr.index,run_underlying underlying252,asIntOf,go_sem,part,dM,S8]
set_option maxRecDepth 20000 in
theorem AU(n:Nat)(w:World)(hs:Sz w)(hn:n<1099511627776):Calls prog 169 #[.int .i64 (n:Int)] w λe w'=>e= .returned (.tuple #[.int .i64 ((YE n).1:Nat),.int .i64 (YE n).2])/\w'=w:=by
 have e0:=hs 0 (by omega);have e1:=hs 1 (by omega);have e2:=hs 2 (by omega);have e3:=hs 3 (by omega);have e4:=hs 4 (by omega);have e5:=hs 5 (by omega);have e6:=hs 6 (by omega);have e7:=hs 7 (by omega);have e8:=hs 8 (by omega);have e9:=hs 9 (by omega);clear hs;simp only [dM,S8,List.getD_cons_zero,List.getD_cons_succ]at e0 e1 e2 e3 e4 e5 e6 e7 e8 e9;go_in;by_cases h1:n<1
 ·go_wp2;go_ret2;rw[YE,if_pos h1];exact⟨rfl,rfl⟩
 ·go_wp2_with fail
  go_loop [4,5,9] (λs4 s5 s9=>∃k:Nat,k<=10/\s9= .int .i64 (k:Int)/\Hid (∀j:Nat,j<k->¬n<=dM j)) (λ_ _ s9=>match s9 with| .int _ m=>10-m.toNat|_=>0)
  case atStart=>exact⟨0,Nat.zero_le _,rfl,Fh (λj h=>absurd h (by omega))⟩
  case round=>
   obtain⟨k,hk,rfl,H⟩:=hrel;by_cases Sh:k<10
   ·have QE:=sJ k Sh;obtain⟨z,hz⟩:=Fp (dM k);rw[<-hz]at QE;have HZ:=Fh hz;clear hz;by_cases h2:n<=z
    ·go_wp2;go_ret2;have hx:=wj n k Sh H.o (by rw[<-HZ.o];exact h2);rw[YE,if_neg h1,if_pos (by rw[hx];exact Sh),hx];exact⟨rfl,rfl⟩
    ·have H2:Hid (∀j:Nat,j<k+1->¬n<=dM j):=Fh λj hj=>by
      rcases Nat.lt_succ_iff_lt_or_eq.1 hj with h3|rfl
      ·exact H.o j h3
      ·rw[<-HZ.o];exact h2
     go_wp2;go_round
     case rel=>exact⟨k+1,by omega,by go_num,H2⟩
     case measure=>simp;omega
   ·have Jc:k=10:=by omega
    subst Jc;have hx:=sI n H.o;have HX:=Fh hx;clear hx;go_wp2
    all_goals first|omega|skip
    go_ret2;rw[YE,if_neg h1,if_neg (by rw[HX.o];decide)];exact⟨rfl,rfl⟩
theorem qM(n:Nat)(w:World)(hs:Sz w)(hn:n<1099511627776):Calls prog 99 #[.int .i64 (n:Int)] w λe w'=>e= .returned (.tuple #[.int .i64 ((bD n).1:Nat),.int .i64 (bD n).2])/\w'=w:=by
 have HS:=Fh hs;clear hs;go_in;by_cases h1:480<n
 ·go_wp2;go_ret2;rw[bD,if_pos h1];exact⟨rfl,rfl⟩
 ·go_wp2_with fail;rw[show(32:Int)+(n:Int)=((32+n:Nat):Int)by omega];refine(AU _ _ HS.o (by omega)).mono ?_;rintro e w1⟨rfl,rfl⟩;go_wp2;go_ret2;rw[bD,if_neg h1];exact⟨rfl,rfl⟩
theorem AV(n:Nat)(w:World)(hs:Sz w)(hn:n<1099511627776):Calls prog 164 #[.int .i64 (n:Int)] w λe w'=>e= .returned (.tuple #[.int .i64 ((bl n).1:Nat),.int .i64 (bl n).2])/\w'=w:=by
 have HS:=Fh hs;clear hs;go_in;by_cases h0:n<1
 ·go_wp2;go_ret2;rw[bl,if_pos (.inl h0)];exact⟨rfl,rfl⟩
 ·by_cases h1:63<n
  ·go_wp2;go_ret2;rw[bl,if_pos (.inr h1)];exact⟨rfl,rfl⟩
  ·go_wp2_with fail;rw[show(16:Int)+(n:Int)=((16+n:Nat):Int)by omega];refine(AU _ _ HS.o (by omega)).mono ?_;rintro e w1⟨rfl,rfl⟩;go_wp2;go_ret2;rw[bl,if_neg (by omega)];exact⟨rfl,rfl⟩
theorem oD{S:Nat->Prop}{w w':World}{A:Option Addr}{vs:List Value}(h:aM w A vs)(hk:aa S w w')(hs:∀a,A=some a->¬S a.block):aM w' A vs:=λi v hv=>by
 obtain⟨b,off,e,hc⟩:=h i v hv;exact⟨b,off,e,hk.cell hc (hs ⟨b,off,none⟩ e)⟩
theorem aj{S:Nat->Prop}{w w':World}{base:Nat}{e:TypeId}{size:Nat}{v:Value}{n:Nat}{xs:List Value}(h:w.ownsRow base e size v n xs)(hk:aa S w w')(hs:∀k,v.ownBlock=some k->¬S k):w'.ownsRow base e size v n xs:=by
 refine⟨h.1,?_⟩;rcases h.2 with h0|⟨g,cap,Kb,rfl,hle,hg,r⟩
 ·exact .inl h0
 ·exact .inr ⟨g,cap,Kb,rfl,hle,(hk.block g (Array.getElem?_eq_some_iff.1 hg).1 (hs g rfl)).trans hg,r⟩
theorem aS{w:World}{base XB:Nat}{e:TypeId}{size:Nat}{v:Value}{n:Nat}{xs:List Value}(h:w.ownsRow base e size v n xs)(hb:XB<=base):w.ownsRow XB e size v n xs:=by
 refine⟨h.1,?_⟩;rcases h.2 with h0|⟨g,cap,Kb,rfl,hle,r⟩
 ·exact .inl h0
 ·exact .inr ⟨g,cap,Kb,rfl,by omega,r⟩
theorem aF{w:World}{base:Nat}{e:TypeId}{size:Nat}{v:Value}{n:Nat}{xs:List Value}(h:w.ownsRow base e size v n xs){k:Nat}(hk:v.ownBlock=some k):base<=k/\k<w.heap.size:=by
 rcases h.2 with⟨rfl,_⟩|⟨g,cap,Kb,rfl,hle,hg,_⟩
 ·cases hk
 ·have:g=k:=by simpa[Value.ownBlock]using hk
  subst this;exact⟨hle,(Array.getElem?_eq_some_iff.1 hg).1⟩
theorem Mf:(prog.info? 5).map (λi=>(i.zero,i.size,i.bytes))=some (some (.int .u8 0),1,1):=by kernel_rfl
theorem Kc:(prog.info? 73).map (λi=>(i.zero,i.size,i.bytes))=some (some (.slice none 0 0),1,24):=by kernel_rfl
theorem kT(A:Option Addr)(c:Nat)(x:List UInt8)(w:World)(hx:x.length<1099511627776)(hr:aM w A (ay x)):
  Calls prog 220 #[.slice A x.length c] w λe w'=>∃u,e= .returned u/\w'.ownsRow w.heap.size 5 1 u x.length (ay x)/\Below w.heap.size w w':=by
 obtain⟨i0,hi,G9,G8,G7⟩:=info_parts Mf;have HR:=Fh hr;clear hr;have q22:∀(w:World) (a:Option Addr) (n c n' c':Nat),(binOp .eql 73 (.slice a n c) (.slice none n' c')).run prog w= .ok (.bool a.isNone) w:=λw a n c n' c'=>Lib.run_eql_slice_nil w _ _ a n c n' c' underlying73;go_in;rcases A with _|a
 ·go_wp2;go_ret;have TJ:x= []:=by
   rcases x with _|⟨y,r⟩
   ·rfl
   ·obtain⟨b,off,h,_⟩:=HR.o 0 _ rfl;cases h
  subst TJ;exact⟨_,rfl,⟨rfl,.inl ⟨rfl,rfl⟩⟩,Below.refl _ _⟩
 ·go_wp2_with (at_builtin;refine wpList_append_own _ rfl _ _ 73 rfl w.heap.size 5 i0 (.int .u8 0) 1 1 underlying73 hi G9 G8 G7 rfl (by decide) _ _ _ rfl (World.ownsRow_made w #[] 0 (Fm _) (Nat.zero_le _) rfl) a x.length c (ay x) rfl ?qc1 ?qc2 ?qc3 ?qc4 ?qc5 ?qc6 ?_)
  case qc1=>rw[kI,Nat.mul_one]
  case qc2=>
   intro j u hu;obtain⟨b,off,e,hc⟩:=HR.o j u hu;cases e;rw[Addr.add_lit];exact Lib.cell?_alloc_some _ hc
  case qc3=>
   intro u hu;obtain⟨y,_,rfl⟩:=List.mem_map.1 hu;rfl
  case qc4=>unfold maxLen;omega
  case qc5=>omega
  case qc6=>simp
  intro v' w' Gq hg hnil;go_wp2;go_ret;refine⟨_,rfl,?_,?_⟩
  ·simpa using Gq
  ·exact((Below.refl _ w).alloc (Fm _) _).grown hg (by simp) (by intro k hk;simp[Value.ownBlock]at hk;omega)
structure av where
 mb:Nat
 wb:Nat
 ab:Nat
 gb:Nat
 kb:Nat
 gc:Nat
 kc:Nat
def LQ(w:World)(g:Nat)(n:Nat)(t:Tr):Prop:=∃cs,Whole w g 5 cs/\n<=cs.size/\∀i,i<n->cs[i]? =some (.int .u8 (t.get i:Int))
def OZ(ab gb gc n:Nat)(t:Tr)(w:World):Prop:=Whole w ab 188 #[.slice (some ⟨gb,0,none⟩) n gc]/\LQ w gb n t/\n<=gc
def O0(wb kb kc n:Nat)(t:Tr)(w:World):Prop:=(∃c,Whole w wb 267 #[.slice (some ⟨kb,0,none⟩) n kc,.int .i64 c,.int .i64 0])/\LQ w kb n t/\n<=kc
def TK:List Nat:= [8,12,16,20,24,28,32,36,40,44,48,52,56,60,64,68,72,80,84,88,92]
def QF:List Nat:= [0,1,1,1,2,1,3,1,4,4]
def QH:List Nat:= [8,4,12,4,16,8,24,2,26,2,28,4]
structure eB(w:World):Prop where
 sz:∀i,i<10->w.cell? ⟨1,i,none⟩=some (.int .i64 (S8.getD i 0:Nat))
 fl:∀i,i<21->w.cell? ⟨0,i,none⟩=some (.int .i64 (TK.getD i 0:Nat))
 hn:∀i,i<2->w.cell? ⟨2,i,none⟩=some (.int .i64 ((0:Nat):Int))
 hc:∀i,i<10->w.cell? ⟨4,i,none⟩=some (.int .i64 (QF.getD i 0:Nat))
 ho:∀i,i<12->w.cell? ⟨5,i,none⟩=some (.int .i64 (QH.getD i 0:Nat))
 mx:∃m:Int,w.cell? ⟨3,0,none⟩=some (.int .i64 m)
def Tab(k:Nat):Prop:=k=1\/k=0\/k=2\/k=4\/k=5\/k=3
theorem eB.int{w:World}(h:eB w){k:Nat}(hk:Tab k):∃x,w.cell? ⟨k,0,none⟩=some (.int .i64 x):=by
 rcases hk with rfl|rfl|rfl|rfl|rfl|rfl
 ·exact⟨_,h.sz 0 (by decide)⟩
 ·exact⟨_,h.fl 0 (by decide)⟩
 ·exact⟨_,h.hn 0 (by decide)⟩
 ·exact⟨_,h.hc 0 (by decide)⟩
 ·exact⟨_,h.ho 0 (by decide)⟩
 ·exact h.mx
theorem eB.lt{w:World}(h:eB w){k:Nat}(hk:Tab k):k<w.heap.size:=by
 obtain⟨x,hx⟩:=h.int hk;exact ap hx
theorem eB.kept{S:Nat->Prop}{w w':World}(h:eB w)(hk:aa S w w')(hs:∀k,Tab k->¬S k):eB w' where
 sz:=λi hi=>hk.cell (h.sz i hi) (hs _ (.inl rfl))
 fl:=λi hi=>hk.cell (h.fl i hi) (hs _ (.inr (.inl rfl)))
 hn:=λi hi=>hk.cell (h.hn i hi) (hs _ (.inr (.inr (.inl rfl))))
 hc:=λi hi=>hk.cell (h.hc i hi) (hs _ (.inr (.inr (.inr (.inl rfl)))))
 ho:=λi hi=>hk.cell (h.ho i hi) (hs _ (.inr (.inr (.inr (.inr (.inl rfl))))))
 mx:=by
  obtain⟨m,hm⟩:=h.mx;exact⟨m,hk.cell hm (hs _ (.inr (.inr (.inr (.inr (.inr rfl))))))⟩
theorem eB.below{w w':World}(h:eB w)(hb:Below w.heap.size w w'):eB w':=h.kept (aa.below hb λ_=>False) λ_ _ h=>h
theorem eB.Hk{w:World}(h:eB w):Sz w:=h.sz
structure ao(O:av)(μ:Mm)(w:World):Prop where
 env:eB w
 ok:LP μ.Fq μ.slots=true
 m:Whole w O.mb 121 #[.pointer (some ⟨O.wb,0,none⟩),.pointer (some ⟨O.ab,0,none⟩),.int .i64 (μ.Fq:Int),.int .i64 (μ.slots:Int)]
 wt:∃n,Whole w O.wb 267 #[.slice (some ⟨O.kb,0,none⟩) (μ.size/4) O.kc,.int .i64 n,.int .i64 0]
 ar:Whole w O.ab 188 #[.slice (some ⟨O.gb,0,none⟩) μ.size O.gc]
 JP:LQ w O.gb μ.size μ.b
 ki:LQ w O.kb (μ.size/4) μ.k
 ne:O.gb≠O.kb
 gc:μ.size<=O.gc
 kc:μ.size/4<=O.kc
theorem OZ.kept{S:Nat->Prop}{ab gb gc n:Nat}{t:Tr}{w w':World}(h:OZ ab gb gc n t w)(hk:aa S w w')(ha:¬S ab)(hg:¬S gb):OZ ab gb gc n t w':=by
 obtain⟨h1,⟨cs,h2,h3⟩,h4⟩:=h;exact⟨hk.whole h1 ha,⟨cs,hk.whole h2 hg,h3⟩,h4⟩
theorem O0.kept{S:Nat->Prop}{wb kb kc n:Nat}{t:Tr}{w w':World}(h:O0 wb kb kc n t w)(hk:aa S w w')(ha:¬S wb)(hg:¬S kb):O0 wb kb kc n t w':=by
 obtain⟨⟨c,h1⟩,⟨cs,h2,h3⟩,h4⟩:=h;exact⟨⟨c,hk.whole h1 ha⟩,⟨cs,hk.whole h2 hg,h3⟩,h4⟩
def au(O:av)(k:Nat):Prop:=k=O.wb\/k=O.gb\/k=O.kb
structure MG(O:av)(w:World)(μ:Mm)(w':World):Prop where
 has:ao O μ w'
 kept:aa (au O) w w'
theorem LQ.kept{S:Nat->Prop}{w w':World}{g n:Nat}{t:Tr}(h:LQ w g n t)(hk:aa S w w')(hs:¬S g):LQ w' g n t:=by
 obtain⟨cs,h1,h2,h3⟩:=h;exact⟨cs,hk.whole h1 hs,h2,h3⟩
theorem LQ.cell{w:World}{g n:Nat}{t:Tr}(h:LQ w g n t){i:Nat}(hi:i<n):w.cell? ⟨g,i,none⟩=some (.int .u8 (t.get i:Int)):=by
 obtain⟨cs,h1,h2,h3⟩:=h;rw[h1.cell];exact h3 i hi
theorem LQ.frozen{w:World}{g n:Nat}{t:Tr}(h:LQ w g n t)(i:Nat):w.frozen? ⟨g,i,none⟩=false:=by
 obtain⟨cs,h1,_⟩:=h;exact h1.frozen i
theorem LQ.lt{w:World}{g n:Nat}{t:Tr}(h:LQ w g n t):g<w.heap.size:=by
 obtain⟨cs,h1,_⟩:=h;exact h1.lt
theorem LQ.put{w:World}{g n:Nat}{t:Tr}(h:LQ w g n t){i:Nat}(hi:i<n)(hn:i<16000000)(v:Nat):LQ (w.setCell ⟨g,i,none⟩ (.int .u8 ((v%256:Nat):Int))) g n (t.put i v):=by
 obtain⟨cs,h1,h2,h3⟩:=h;refine⟨_,h1.put i _,by simpa using h2,λj hj=> ?_⟩;rw[Tr.Hy t v j hn];by_cases e:j=i
 ·subst e;rw[if_pos rfl,Array.getElem?_setIfInBounds_self_of_lt (by omega)]
 ·rw[if_neg e,Array.getElem?_setIfInBounds_ne (by omega)];exact h3 j hj
theorem LQ.congr{w:World}{g n:Nat}{t t':Tr}(h:LQ w g n t)(he:∀i,i<n->t.get i=t'.get i):LQ w g n t':=by
 obtain⟨cs,h1,h2,h3⟩:=h;exact⟨cs,h1,h2,λi hi=>by rw[h3 i hi,he i hi]⟩
section
variable{O:av}{μ:Mm}{w w':World}
def eX(O:av)(k:Nat):Prop:=k=O.mb\/k=O.wb\/k=O.ab\/k=O.gb\/k=O.kb\/Tab k
theorem ao.kept{S:Nat->Prop}(h:ao O μ w)(hk:aa S w w')(hs:∀k,eX O k->¬S k):ao O μ w':=by
 obtain⟨n,hn⟩:=h.wt;exact⟨h.env.kept hk λk h=>hs k (.inr (.inr (.inr (.inr (.inr h))))),h.ok,hk.whole h.m (hs _ (.inl rfl)),⟨n,hk.whole hn (hs _ (.inr (.inl rfl)))⟩,hk.whole h.ar (hs _ (.inr (.inr (.inl rfl)))),h.JP.kept hk (hs _ (.inr (.inr (.inr (.inl rfl))))),h.ki.kept hk (hs _ (.inr (.inr (.inr (.inr (.inl rfl)))))),h.ne,h.gc,h.kc⟩
theorem ao.lt(h:ao O μ w){k:Nat}(hk:eX O k):k<w.heap.size:=by
 obtain⟨n,hn⟩:=h.wt;rcases hk with rfl|rfl|rfl|rfl|rfl|hk
 ·exact h.m.lt
 ·exact hn.lt
 ·exact h.ar.lt
 ·exact h.JP.lt
 ·exact h.ki.lt
 ·exact h.env.lt hk
theorem ao.below(h:ao O μ w)(hb:Below w.heap.size w w'):ao O μ w':=h.kept (aa.below hb λ_=>False) λ_ _ h=>h
theorem ao.alloc(h:ao O μ w)(o:Obj):ao O μ (w.alloc o):=h.below ((Below.refl _ w).alloc (Fm _) o)
theorem ao.drew(h:ao O μ w):ao O μ w.drew:=h.below (Below.refl _ w).drew
theorem aE{w:World}{g g':Nat}{t t':TypeId}{cs cs':Array Value}(h:Whole w g t cs)(h':Whole w g' t' cs')(ht:t≠t'):g≠g':=by
 rintro rfl;unfold Whole at h h';rw[h]at h';injection h' with h1;injection h1 with h2 h3;exact ht h3
theorem ao.apart(h:ao O μ w):O.mb≠O.wb/\O.mb≠O.ab/\O.mb≠O.gb/\O.mb≠O.kb/\O.wb≠O.ab/\O.wb≠O.gb/\O.wb≠O.kb/\O.ab≠O.gb/\O.ab≠O.kb:=by
 obtain⟨n,hn⟩:=h.wt;obtain⟨cs,hc,_⟩:=h.JP;obtain⟨ks,hk,_⟩:=h.ki;exact⟨aE h.m hn (by decide),aE h.m h.ar (by decide),aE h.m hc (by decide),aE h.m hk (by decide),aE hn h.ar (by decide),aE hn hc (by decide),aE hn hk (by decide),aE h.ar hc (by decide),aE h.ar hk (by decide)⟩
theorem ao.tabs(h:ao O μ w):∀k,Tab k->k≠O.wb/\k≠O.gb/\k≠O.kb:=λk hk=>by
 obtain⟨x,hx⟩:=h.env.int hk;have hz:=bu h.ok;have G7:8000<=μ.size:=hz.2.1;obtain⟨n,hn⟩:=h.wt;refine⟨?_,?_,?_⟩
 ·rintro rfl;rw[hn.cell 0]at hx;cases hx
 ·rintro rfl;rw[h.JP.cell (i:=0) (by omega)]at hx;cases hx
 ·rintro rfl;rw[h.ki.cell (i:=0) (by omega)]at hx;cases hx
theorem ao.looked(h:ao O μ w)(n:Int):ao O μ (w.setCell ⟨O.wb,1,none⟩ (.int .i64 n)):=by
 obtain⟨h1,h2,_,_,h5,h6,h7,_,_⟩:=h.apart;obtain⟨n0,hn⟩:=h.wt;have hk:aa (λk=>k=O.wb) w (w.setCell ⟨O.wb,1,none⟩ (.int .i64 n)):=(aa.refl (λk=>k=O.wb) w).setCell (p:=⟨O.wb,1,none⟩) (.inl rfl) _;exact⟨h.env.kept hk λk ht=>(h.tabs k ht).1,h.ok,hk.whole h.m h1,⟨n,hn.put 1 (.int .i64 n)⟩,hk.whole h.ar (Ne.symm h5),h.JP.kept hk (Ne.symm h6),h.ki.kept hk (Ne.symm h7),h.ne,h.gc,h.kc⟩
theorem ao.wrote(h:ao O μ w){i:Nat}(hi:i<μ.size)(v:Nat):ao O {μ with b:=μ.b.put i v} (w.setCell ⟨O.gb,i,none⟩ (.int .u8 ((v%256:Nat):Int))):=by
 obtain⟨_,_,h3,_,_,h6,_,h8,_⟩:=h.apart;obtain⟨n0,hn⟩:=h.wt;have hk:aa (λk=>k=O.gb) w (w.setCell ⟨O.gb,i,none⟩ (.int .u8 ((v%256:Nat):Int))):=(aa.refl (λk=>k=O.gb) w).setCell (p:=⟨O.gb,i,none⟩) (.inl rfl) _;have hz:=bu h.ok;have G7:μ.size<=200000:=hz.1;exact⟨h.env.kept hk λk ht=>(h.tabs k ht).2.1,h.ok,hk.whole h.m h3,⟨n0,hk.whole hn h6⟩,hk.whole h.ar h8,h.JP.put hi (by omega) v,h.ki.kept hk (Ne.symm h.ne),h.ne,h.gc,h.kc⟩
theorem ao.a(h:ao O μ w):OZ O.ab O.gb O.gc μ.size μ.b w:=⟨h.ar,h.JP,h.gc⟩
theorem ao.wa(h:ao O μ w):O0 O.wb O.kb O.kc (μ.size/4) μ.k w:=⟨h.wt,h.ki,h.kc⟩
theorem ao.setA(h:ao O μ w){b:Tr}(hk:aa (λk=>k=O.gb) w w')(ha:OZ O.ab O.gb O.gc μ.size b w'):MG O w {μ with b:=b} w':=by
 obtain⟨_,_,h3,_,_,h6,_,h8,_⟩:=h.apart;obtain⟨n0,hn⟩:=h.wt;exact⟨⟨h.env.kept hk λk ht=>(h.tabs k ht).2.1,h.ok,hk.whole h.m h3,⟨n0,hk.whole hn h6⟩,ha.1,ha.2.1,h.ki.kept hk (Ne.symm h.ne),h.ne,h.gc,h.kc⟩,hk.mono λk _ e=> .inr (.inl e)⟩
theorem ao.setW(h:ao O μ w){k:Tr}(hk:aa (λk=>k=O.kb) w w')(ha:O0 O.wb O.kb O.kc (μ.size/4) k w'):MG O w {μ with k:=k} w':=by
 obtain⟨_,_,_,h4,_,_,h7,_,h9⟩:=h.apart;exact⟨⟨h.env.kept hk λk ht=>(h.tabs k ht).2.2,h.ok,hk.whole h.m h4,ha.1,hk.whole h.ar h9,h.JP.kept hk h.ne,ha.2.1,h.ne,h.gc,h.kc⟩,hk.mono λk _ e=> .inr (.inr e)⟩
theorem MG.refl(h:ao O μ w):MG O w μ w:=⟨h,aa.refl _ _⟩
theorem MG.trans{μ':Mm}{w1:World}(h:MG O w μ w1)(k:MG O w1 μ' w'):MG O w μ' w':=⟨k.has,h.kept.trans k.kept⟩
theorem MG.below{w1:World}(h:MG O w μ w1)(hb:Below w1.heap.size w1 w'):MG O w μ w':=⟨h.has.below hb,h.kept.trans (aa.below hb _)⟩
theorem MG.after{w1:World}(hb:Below w.heap.size w w1)(h:MG O w1 μ w'):MG O w μ w':=⟨h.has,(aa.below hb _).trans h.kept⟩
theorem MG.alloc{w1:World}(h:MG O w μ w1)(o:Obj):MG O w μ (w1.alloc o):=h.below ((Below.refl _ w1).alloc (Fm _) o)
theorem MG.drew{w1:World}(h:MG O w μ w1):MG O w μ w1.drew:=h.below (Below.refl _ w1).drew
theorem MG.drewN{w1:World}(h:MG O w μ w1)(n:Nat):MG O w μ (w1.drewN n):=h.below (dz w1 n)
end
def fF(w:Nat):Prop:=w=1\/w=2\/w=4\/w=8
theorem qN(n:Nat)(w:World)(h:fF n):Calls prog 228 #[.int .i64 (n:Int)] w λe w'=>e= .returned (.bool true)/\w'=w:=by
 go_in;rcases h with rfl|rfl|rfl|rfl
 all_goals
  go_wp2;go_ret;exact⟨rfl,rfl⟩
theorem tN(b n:Nat)(w:World)(hb:1<=b)(h1:b<8589934592)(h2:n<8589934592):Calls prog 306 #[.int .i64 (b:Int),.int .i64 (n:Int)] w λe w'=>e= .returned (.bool ((n:Int)%(b:Int)==0))/\w'=w:=by
 go_in;go_wp2;go_ret;exact⟨rfl,rfl⟩
theorem AW(n at_ b:Nat)(w:World)(hb:fF b)(hd:at_%b=0)(hr:at_+b<=n)(h2:n<8589934592):Calls prog 227 #[.int .i64 (n:Int),.int .i64 (at_:Int),.int .i64 (b:Int)] w λe w'=>e= .returned (.int .i64 0)/\w'=w:=by
 have HW:=Fh (qN b w hb);have h1:1<=b/\b<=8:=by rcases hb with rfl|rfl|rfl|rfl<;>omega
 have HD:=Fh (tN b at_ w h1.1 (by omega) (by omega));have e:((at_:Int)%(b:Int)==0)=true:=by rw[beq_iff_eq,<-Int.natCast_emod,hd];rfl
 rw[e]at HD;obtain⟨h3,h4⟩:=h1;clear e hd hb;go_in;go_wp2_with fail;refine HW.o.mono ?_;rintro e w1⟨rfl,rfl⟩;go_wp2_with fail;refine HD.o.mono ?_;rintro e w1⟨rfl,rfl⟩;go_wp2;go_ret;exact⟨rfl,rfl⟩
def Qh(f:Nat->Nat):Nat->Nat
 |0=>0
 |n+1=>f 0+256*Qh (λj=>f (j+1)) n
theorem Ph:∀(k:Nat) (f:Nat->Nat),Qh f (k+1)=Qh f k+f k*256^k
 |0,f=>by simp[Qh]
 |k+1,f=>by
  rw[Qh,Ph k,Qh,Nat.pow_succ,Nat.mul_add,Nat.add_assoc,Nat.mul_comm (256^k) 256,<-Nat.mul_assoc (f (k+1)) 256,Nat.mul_comm (f (k+1)) 256,Nat.mul_assoc]
theorem TL:∀(k:Nat) (f:Nat->Nat),(∀j,f j<256)->Qh f k<256^k
 |0,f,_=>by simp[Qh]
 |k+1,f,h=>by
  have h1:=h 0;have h2:=TL k (λj=>f (j+1)) λj=>h (j+1);rw[Qh,Nat.pow_succ];omega
theorem Dk{k v x:Nat}(hv:v<256^k)(hx:x<256)(hk:k<=7)(m:Int)(hm:m=((x*256^k:Nat):Int)):bits .or .u64 (v:Int) m=((v+x*256^k:Nat):Int):=by
 have hp:256^k<=256^7:=Nat.pow_le_pow_right (by decide) hk;have h1:x*256^k<=255*256^7:=Nat.mul_le_mul (by omega) hp;have e7:256^7=72057594037927936:=by decide
 rw[hm,u64_or_nat _ _ (by omega) (by omega)];congr 1;have e:256^k=2^(8*k):=by rw[Nat.pow_mul]
 rw[e]at hv⊢;have:=Nat.two_pow_add_eq_or_of_lt hv x;rw[Nat.or_comm,Nat.mul_comm x,<-this,Nat.add_comm]
theorem sK(g off len cap at_ b:Nat)(f:Nat->Nat)(w:World)(hb:fF b)(hd:at_%b=0)(hr:at_+b<=len)(h2:len<8589934592)(hf:∀j,f j<256)(hc:∀j,j<b->w.cell? ⟨g,off+(at_+j),none⟩=some (.int .u8 (f j:Int))):
  Calls prog 124 #[.slice (some ⟨g,off,none⟩) len cap,.int .i64 (at_:Int),.int .i64 (b:Int)] w λe w'=>e= .returned (.tuple #[.int .u64 (Qh f b:Nat),.int .i64 0])/\w'=w:=by
 have HP:=Fh (AW len at_ b w hb hd hr h2);have HC:=Fh hc;have HF:=Fh hf;have HB:=Fh hb;have h8:b<=8:=by rcases hb with rfl|rfl|rfl|rfl<;>omega
 clear hc hf hd hb;go_in;go_wp2_with fail;refine HP.o.mono ?_;rintro e w1⟨rfl,rfl⟩;go_wp2_with fail
 go_loop [9,10,20] (λs9 _ s20=>∃k v:Nat,k<=b/\s20= .int .i64 k/\s9= .int .u64 v/\Hid (v=Qh f k)) (λ_ _ s20=>match s20 with| .int _ m=>b-m.toNat|_=>0)
 case atStart=>exact⟨0,0,Nat.zero_le _,rfl,rfl,Fh rfl⟩
 case round=>
  obtain⟨k,v,hk,rfl,rfl,HV⟩:=hrel;by_cases FR:k<b
  ·have hc:=HC.o k FR;have hf:=HF.o k;have HN:Hid (∀m:Int,m=((f k*256^k:Nat):Int)->Value.int .u64 (bits .or .u64 (v:Int) m)=Value.int .u64 (Qh f (k+1):Nat)):=Fh λm hm=>by
    rw[Dk (by rw[HV.o];exact TL k f HF.o) hf (by omega) m hm,HV.o,<-Ph]
   have KM:k=0\/k=1\/k=2\/k=3\/k=4\/k=5\/k=6\/k=7:=by omega
   rcases KM with rfl|rfl|rfl|rfl|rfl|rfl|rfl|rfl
   all_goals
    try rw[Nat.add_zero]at hc
    go_wp2;go_round
    case rel=>exact⟨_,_,FR,rfl,HN.o _ (by simp),Fh rfl⟩
    case measure=>simp;omega
  ·have KZ:k=b:=by omega
   go_wp2;go_ret2;exact⟨by rw[HV.o,KZ];rfl,rfl⟩
section
variable{O:av}{μ:Mm}{w:World}
theorem xL{wb kb kc n:Nat}{t:Tr}(h:O0 wb kb kc n t w):Calls prog 223 #[.pointer (some ⟨wb,0,none⟩)] w λe w'=>e= .returned (.bool false)/\w'=w:=by
 obtain⟨⟨c,hn⟩,_,_⟩:=h;have c0:=hn.cell 0;simp only [List.getElem?_toArray,List.getElem?_cons_zero]at c0;have q22:∀(w:World) (a:Option Addr) (n c n' c':Nat),(binOp .eql 73 (.slice a n c) (.slice none n' c')).run prog w= .ok (.bool a.isNone) w:=λw a n c n' c'=>Lib.run_eql_slice_nil w _ _ a n c n' c' underlying73;clear hn;go_in;go_wp2;go_ret;exact⟨rfl,rfl⟩
theorem jU(h:ao O μ w):Calls prog 223 #[.pointer (some ⟨O.wb,0,none⟩)] w λe w'=>e= .returned (.bool false)/\w'=w:=xL h.wa
theorem ao.sz(h:ao O μ w):μ.size<=200000/\8000<=μ.size/\μ.size%16=0:=by
 have:=bu h.ok;exact⟨this.1,this.2.1,this.2.2.1⟩
theorem xN{wb kb kc n:Nat}{t:Tr}(h:O0 wb kb kc n t w)(TM:n<=300000):Calls prog 307 #[.pointer (some ⟨wb,0,none⟩)] w λe w'=>e= .returned (.int .i64 ((4*n:Nat):Int))/\w'=w:=by
 obtain⟨⟨c,hn⟩,_,_⟩:=h;have c0:=hn.cell 0;simp only [List.getElem?_toArray,List.getElem?_cons_zero]at c0;clear hn;go_in;go_wp2;go_ret;exact⟨aH (by omega),rfl⟩
theorem AX{wb kb kc N:Nat}{t:Tr}(h:O0 wb kb kc N t w)(TM:N<=300000)(a n:Nat)(hr:a+n<=4*N):Calls prog 230 #[.pointer (some ⟨wb,0,none⟩),.int .i64 (a:Int),.int .i64 (n:Int)] w λe w'=>e= .returned (.bool true)/\w'=w:=by
 have HS:=Fh (xN h TM);obtain⟨z,hz⟩:=Fp (4*N);have z1:z<=1200000:=by omega
 rw[<-hz]at HS hr;clear hz h TM;go_in;go_wp2_with fail;refine HS.o.mono ?_;rintro e w1⟨rfl,rfl⟩;go_wp2_with fail;refine HS.o.mono ?_;rintro e w1⟨rfl,rfl⟩;go_wp2;go_ret;exact⟨aq (by simp;omega),rfl⟩
theorem Dl(h:ao O μ w)(a n:Nat)(hr:a+n<=μ.size):Calls prog 230 #[.pointer (some ⟨O.wb,0,none⟩),.int .i64 (a:Int),.int .i64 (n:Int)] w λe w'=>e= .returned (.bool true)/\w'=w:=by
 have:=h.sz;exact AX h.wa (by omega) a n (by omega)
theorem xO(h:ao O μ w)(a n:Nat)(hn:1<=n)(hr:a+n<=μ.size):Calls prog 324 #[.pointer (some ⟨O.wb,0,none⟩),.int .i64 (a:Int),.int .i64 (n:Int)] w λe w'=>e= .returned (.int .i64 (μ.FH a n:Nat))/\w'=w:=by
 have HN:=Fh (jU h);have HF:=Fh (Dl h a n hr);obtain⟨z1,z2,z3⟩:=h.sz;obtain⟨k0,IK⟩:=h.wt;have c0:=IK.cell 0;simp only [List.getElem?_toArray,List.getElem?_cons_zero]at c0;have HK:=Fh h.ki;have TN:=h.kc;have HE:Hid (μ.FH a n=if μ.k.all (a/4) ((a+n+3)/4-a/4) (μ.k.get (a/4))=true then μ.k.get (a/4)else 0):=Fh (by rw[Mm.FH,if_neg (by omega)]);obtain⟨z,hz⟩:=Fp μ.size;rw[<-hz]at z1 z2 z3 HK hr TN c0;obtain⟨q,hq⟩:=Fp (z/4);rw[<-hq]at HK TN c0;have Jm:(a+n+3)/4<=q:=by omega
 have IH:q<=50000:=by omega
 obtain⟨f,hf⟩:=Fp (a/4);obtain⟨t,ht⟩:=Fp ((a+n+3)/4);have hft:f<t:=by omega
 have ef:(a:Int)/4=(f:Int):=by omega
 have et:((a:Int)+(n:Int)+4-1)/4=(t:Int):=by omega
 rw[<-ht]at Jm;rw[<-hf,<-ht]at HE;have EF:=Fh ef;have ET:=Fh et;clear hz hq z3 IK h hf ht ef et;go_in;go_wp2_with fail;go_step3;go_wp2_with fail;refine HN.o.mono ?_;rintro e w1⟨rfl,rfl⟩;go_wp2_with fail;refine HF.o.mono ?_;rintro e w1⟨rfl,rfl⟩;have ef:=EF.o;have et:=ET.o;have G5:w1.cell? ⟨O.kb,f,none⟩=some (.int .u8 (μ.k.get f:Int)):=HK.o.cell (by omega);obtain⟨y,hy⟩:=Fp (μ.k.get f);rw[<-hy]at G5;rw[<-hy]at HE;have hy256:y<256:=by rw[hy];exact Tr.Jz _ _
 clear hy;go_wp2_with fail;go_step3;go_wp2_with fail;clear ef et
 go_loop [8,10,42] (λs8 _ s42=>∃j:Nat,j<=t-f/\s42= .int .i64 j/\s8= .int .u8 (y:Int)/\Hid (∀m,f<=m->m<f+j->μ.k.get m=y)) (λ_ _ s42=>match s42 with| .int _ m=>(t-f)-m.toNat|_=>0)
 case atStart=>exact⟨0,Nat.zero_le _,rfl,rfl,Fh (λm h1 h2=>by omega)⟩
 case round=>
  obtain⟨j,hj,rfl,rfl,HA⟩:=hrel;by_cases FR:j<t-f
  ·have hcj:w1.cell? ⟨O.kb,f+j,none⟩=some (.int .u8 (μ.k.get (f+j):Int)):=HK.o.cell (by omega);by_cases he:μ.k.get (f+j)=y
   ·rw[he]at hcj;go_wp2;go_round
    case rel=>exact⟨j+1,by omega,by go_num,rfl,Fh λm h1 h2=>by
     by_cases e:m=f+j
     ·rw[e];exact he
     ·exact HA.o m h1 (by omega)⟩
    case measure=>simp;omega
   ·have hg:μ.k.get (f+j)<256:=Tr.Jz _ _;obtain⟨x,hx⟩:=Fp (μ.k.get (f+j));rw[<-hx]at hcj hg he;have hne:¬((x:Int)=(y:Int)):=by omega
    go_wp2_with fail
    try rw[Exit.noGoto_ret]
    go_ret;refine⟨aH ?_,rfl⟩;rw[HE.o,if_neg (λh=>he (by rw[hx];exact(Tr.Me _ _ _ _).1 h (f+j) (by omega) (by omega)))];rfl
  ·have Pj:j=t-f:=by omega
   go_wp2_with fail
   try rw[Exit.noGoto_ret]
   go_ret;refine⟨aH ?_,rfl⟩;rw[HE.o,if_pos ((Tr.Me _ _ _ _).2 λm h1 h2=>HA.o m h1 (by omega))]
theorem EX{a b:Nat}:Nat.beq a b=true↔a=b:=⟨Nat.eq_of_beq_eq_true,Tr.Pf⟩
theorem wk{b:Nat}:Mm.Oq b=true↔fF b:=by
 unfold Mm.Oq fF;simp only [Bool.or_eq_true,EX];constructor
 ·rintro(((h|h)|h)|h)<;>simp[h]
 ·rintro(h|h|h|h)<;>simp[h]
theorem od{a b kind:Nat}:μ.may a b kind=true↔fF b/\a%b=0/\kind≠0/\μ.FH a b=kind:=by
 unfold Mm.may;simp only [Bool.and_eq_true,wk,EX,Bool.not_eq_true'];constructor
 ·rintro⟨⟨⟨h1,h2⟩,h3⟩,h4⟩;exact⟨h1,h2,(λe=>by rw[e]at h3;cases h3),h4⟩
 ·rintro⟨h1,h2,h3,h4⟩;exact⟨⟨⟨h1,h2⟩,Tr.I0 h3⟩,h4⟩
theorem dT{a b kind:Nat}(h:μ.FH a b=kind)(hk:kind≠0):a+b<=μ.size:=by
 unfold Mm.FH at h;split at h
 ·exact absurd h.symm hk
 ·omega
theorem yY{a b:Nat}:μ.FH a b<256:=by
 unfold Mm.FH;split
 ·decide
 ·split
  ·exact Tr.Jz _ _
  ·decide
theorem Et(h:ao O μ w)(a b kind:Nat)(hm:μ.may a b kind=true):Calls prog 308 #[.pointer (some ⟨O.wb,0,none⟩),.int .i64 (a:Int),.int .i64 (b:Int),.int .i64 (kind:Int)] w λe w'=>e= .returned (.bool true)/\w'=w:=by
 obtain⟨h1,h2,h3,h4⟩:=od.1 hm;have GU:=dT h4 h3;have hz:=h.sz.1;have HK:=Fh (xO h a b (by rcases h1 with rfl|rfl|rfl|rfl<;>omega) GU);have hk256:kind<256:=by rw[<-h4];exact yY
 rw[h4]at HK;have h3':¬((kind:Int)=0):=by omega
 have Mw:(a:Int)%(b:Int)=0:=by rw[<-Int.natCast_emod,h2];rfl
 have HM:=Fh Mw;have ha:a<=200000:=by omega
 clear hm h2 h4 GU hz h Mw;go_in;rcases h1 with rfl|rfl|rfl|rfl
 all_goals
  have Mw:=HM.o
  first|rw[show((1:Nat):Int)=1 from rfl]at Mw|rw[show((2:Nat):Int)=2 from rfl]at Mw|rw[show((4:Nat):Int)=4 from rfl]at Mw|rw[show((8:Nat):Int)=8 from rfl]at Mw
  go_wp2_with fail;refine HK.o.mono ?_;rintro e w1⟨rfl,rfl⟩;go_wp2;go_ret;exact⟨aq (by simp[h3]),rfl⟩
theorem sL(h:ao O μ w)(a b kind:Nat)(hm:μ.may a b kind=true):Calls prog 233 #[.pointer (some ⟨O.wb,0,none⟩),.int .i64 (a:Int),.int .i64 (b:Int),.int .i64 (kind:Int)] w λe w'=>e= .returned (.bool true)/\MG O w μ w':=by
 have HN:=Fh (jU h);have TO:=λn=>Et (h.looked n) a b kind hm;have YF:=Fh TO;obtain⟨n,hn⟩:=h.wt;have c1:=hn.cell 1;simp only [List.getElem?_toArray,List.getElem?_cons_zero,List.getElem?_cons_succ]at c1;have f1:=hn.frozen 1;have HH:=Fh h;clear TO hn h hm;go_in;go_wp2_with fail;refine HN.o.mono ?_;rintro e w1⟨rfl,rfl⟩;go_wp2_with fail;refine(YF.o _).mono ?_;rintro e w2⟨rfl,rfl⟩;go_wp2;go_ret;exact⟨rfl,HH.o.looked _,(aa.refl (au O) w1).setCell (p:=⟨O.wb,1,none⟩) (.inl (.inl rfl)) _⟩
theorem ao.mc(h:ao O μ w):w.cell? ⟨O.mb,0,none⟩=some (.pointer (some ⟨O.wb,0,none⟩))/\w.cell? ⟨O.mb,1,none⟩=some (.pointer (some ⟨O.ab,0,none⟩))/\w.cell? ⟨O.mb,2,none⟩=some (.int .i64 (μ.Fq:Int))/\w.cell? ⟨O.mb,3,none⟩=some (.int .i64 (μ.slots:Int)):=
 ⟨h.m.cell 0,h.m.cell 1,h.m.cell 2,h.m.cell 3⟩
theorem dw(h:ao O μ w):Calls prog 61 #[.pointer (some ⟨O.mb,0,none⟩)] w λe w'=>e= .returned (.bool false)/\w'=w:=by
 obtain⟨_,c1,_,_⟩:=h.mc;clear h;go_in;go_wp2;go_ret;exact⟨rfl,rfl⟩
theorem sM{ab gb gc n:Nat}{t:Tr}(h:OZ ab gb gc n t w):Calls prog 119 #[.pointer (some ⟨ab,0,none⟩)] w λe w'=>e= .returned (.bool false)/\w'=w:=by
 have c0:=h.1.cell 0;simp only [List.getElem?_toArray,List.getElem?_cons_zero]at c0;have q22:∀(w:World) (a:Option Addr) (n c n' c':Nat),(binOp .eql 73 (.slice a n c) (.slice none n' c')).run prog w= .ok (.bool a.isNone) w:=λw a n c n' c'=>Lib.run_eql_slice_nil w _ _ a n c n' c' underlying73;clear h;go_in;go_wp2;go_ret;exact⟨rfl,rfl⟩
theorem qO(h:ao O μ w):Calls prog 119 #[.pointer (some ⟨O.ab,0,none⟩)] w λe w'=>e= .returned (.bool false)/\w'=w:=sM h.a
theorem Mx:∀(b:Nat) (t:Tr) (a:Nat),Qh (λj=>t.get (a+j)) b=t.load a b
 |0,t,a=>rfl
 |b+1,t,a=>by
  rw[Qh,Tr.load,<-Mx b];simp only [Nat.add_zero];congr 3;funext j;congr 1;omega
theorem Ev{ab gb gc n:Nat}{t:Tr}(h:OZ ab gb gc n t w)(TM:n<=1200000)(a b:Nat)(hb:fF b)(hd:a%b=0)(hr:a+b<=n):Calls prog 258 #[.pointer (some ⟨ab,0,none⟩),.int .i64 (a:Int),.int .i64 (b:Int)] w λe w'=>e= .returned (.tuple #[.int .u64 (t.load a b:Nat),.int .i64 0])/\w'=w:=by
 have HN:=Fh (sM h);have hl:=sK gb 0 n gc a b (λj=>t.get (a+j)) w hb hd hr (by omega) (λj=>Tr.Jz _ _) (λj hj=>by rw[Nat.zero_add];exact h.2.1.cell (by omega));rw[Mx]at hl;have c0:=h.1.cell 0;simp only [List.getElem?_toArray,List.getElem?_cons_zero]at c0;have HL:=Fh hl;clear h hl hb hd hr;go_in;go_wp2_with fail;refine HN.o.mono ?_;rintro e w1⟨rfl,rfl⟩;go_wp2_with fail;refine HL.o.mono ?_;rintro e w2⟨rfl,rfl⟩;go_wp2;go_ret2;exact⟨rfl,rfl⟩
theorem Dm(h:ao O μ w)(a b:Nat)(hb:fF b)(hd:a%b=0)(hr:a+b<=μ.size):Calls prog 258 #[.pointer (some ⟨O.ab,0,none⟩),.int .i64 (a:Int),.int .i64 (b:Int)] w λe w'=>e= .returned (.tuple #[.int .u64 (μ.b.load a b:Nat),.int .i64 0])/\w'=w:=by
 have:=h.sz;exact Ev h.a (by omega) a b hb hd hr
theorem sN{a b kind v:Nat}(h:μ.ld a b kind=some v):μ.may a b kind=true/\v=μ.b.load a b:=by
 unfold Mm.ld at h;split at h
 ·rename_i h1
  exact⟨h1,(Fk h).symm⟩
 ·cases h
theorem dA(h:ao O μ w)(a b kind v:Nat)(hv:μ.ld a b kind=some v):Calls prog 163 #[.pointer (some ⟨O.mb,0,none⟩),.int .i64 (a:Int),.int .i64 (b:Int),.int .i64 (kind:Int)] w λe w'=>e= .returned (.int .u64 (v:Int))/\MG O w μ w':=by
 obtain⟨hm,rfl⟩:=sN hv;obtain⟨h1,h2,h3,h4⟩:=od.1 hm;have GU:=dT h4 h3;have HN:=Fh (dw h);have HL:=Fh (sL h a b kind hm);obtain⟨c0,c1,_,_⟩:=h.mc;have Ib:=λ(w':World) (hw:MG O w μ w')=>Dm hw.has a b h1 h2 GU;have HG:=Fh Ib;obtain⟨v,Qi⟩:=Fp (μ.b.load a b);rw[<-Qi]at HG⊢;clear hv hm h1 h2 h3 h4 GU h Ib Qi;go_in;go_wp2_with fail;refine HN.o.mono ?_;rintro e w1⟨rfl,rfl⟩;go_wp2_with fail;refine HL.o.mono ?_;rintro e w2⟨rfl,Gg⟩;obtain⟨d0,d1,_,_⟩:=Gg.has.mc;have FK:=Fh Gg;clear Gg;go_wp2_with fail;refine(HG.o _ FK.o).mono ?_;rintro e w3⟨rfl,rfl⟩;go_wp2;go_ret;exact⟨rfl,FK.o⟩
end
end Go.Proofs.YtifkphcaelafjaaGreatDoor
