/-
  Lemmas on the way to the row. No condition beyond their own.
-/
import Derived.IntWalk
import Derived.Laws.EntriesVeiled
import Derived.LoopIn
import Derived.LoopNIn
import Derived.OpenShut
import Derived.OwnWalkIn
import Derived.ProofKit
import Derived.Shelf.RegionOpen
import Derived.Shelf.Strings.Builder1
import Derived.Shelf.Strings.Builder2
import Derived.SliceStrings
import Derived.Sort.QuietIn
import Derived.TacticsInMore
import Derived.WalkLawsBesides
import Derived.Test.YtifkphcaelafjaaGreatDoorQ04
set_option maxHeartbeats 25600000
set_option maxRecDepth 100000
set_option linter.unusedVariables false
set_option linter.unusedSimpArgs false
namespace Go.FC
theorem nO{m:Mm}:∀ {k s:Nat} {l:List Nat},bw m k s=some l->bw m (k+1) s=some l
 |0,s,l,h=>by
  rw[bw]at h;cases h
 |k+1,s,l,h=>by
  rw[bw]at h⊢;by_cases h0:s=0
  ·rwa [if_pos h0]at h⊢
  ·rw[if_neg h0]at h⊢;obtain⟨n,h1,h⟩:=Fi h;obtain⟨l',h2,h⟩:=Fi h;rw[h1,Fj,nO h2];exact h
theorem ur{m:Mm}{k s:Nat}{l:List Nat}(h:bw m (k+1) s=some l)(hs:s≠0):∃n l',cx (s-1) 8 4 m=some n/\l=(s-1)::l'/\bw m (k+1) n=some l':=by
 rw[bw,if_neg hs]at h;obtain⟨n,h1,h⟩:=Fi h;obtain⟨l',h2,h⟩:=Fi h;exact⟨n,l',h1,(Fk h).symm,nO h2⟩
theorem uu{m:Mm}{k:Nat}{l:List Nat}(h:bw m (k+1) 0=some l):l= []:=by
 rw[bw,if_pos rfl]at h;exact(Fk h).symm
end Go.FC
namespace Go.Proofs.YtifkphcaelafjaaGreatDoor
open Tryz
open Go.RowKit Go.Colm Go.FC Go.Maps Go.Shelf Go.Rft
attribute [local go_sem] Oper.semAt_some
section
variable{O:av}{μ:Mm}
structure LsR(O:av)(μ:Mm)(b1 b2 c:Nat)(l pre:List Nat)(A:World):Prop where
 has:ao O μ A
 n1:¬au O b1
 n2:¬au O b2
 x1:A.cell? ⟨b1,0,none⟩=some (.pointer (some ⟨O.mb,0,none⟩))
 x2:A.cell? ⟨b2,0,none⟩=some (.int .i64 (c:Int))
theorem zC(n:Nat)(hn:6<=n)(b1 b2 c s0:Nat)(l:List Nat)(hc:c<10)(Gu:μ.root (3+c)=some s0)(hl:bw μ (μ.Fq+1) s0=some l):
  EB Fence.wide n prog 353 #[.pointer (some ⟨b1,0,none⟩),.pointer (some ⟨b2,0,none⟩)] (λx:Nat=> #[.int .i64 (x:Int)]) (λA C=>MG O A μ C) (λs A=>LsR O μ b1 b2 c l s A) (λpre x=>∃r,pre++x::r=l) (λxs=>xs=l) (λ_=>True):=by
 intro lp J Jx W Ss XQ Uf hY h0;refine callsIn_of_wp func353 rfl trivial ?_ rfl;simp only [ntmps353,List.size_toArray,List.length_cons,List.length_nil,Nat.reduceAdd,Nat.reduceSub,Array.replicate_succ,Array.replicate_zero,List.push_toArray,List.append_toArray,List.nil_append,List.cons_append];have x1:=(Ss _ _ h0).x1;have x2:=(Ss _ _ h0).x2;have Lf:=Fh (λm=>(callsIn_wide (n:=m)).2 (j5 (Ss _ _ h0).has c s0 hc Gu));have HJ0:=Fh h0;have VJ:=Fh XQ;have Wk:=Fh Ss;have HY:=Fh hY;have HL:=Fh hl;have Nf:s0<4294967296:=aU Gu (by omega);clear h0 XQ Ss hY Uf hl Gu
 gi_wp2
 refine⟨trivial,λ_=>by omega,(Lf.o _).mono ?_⟩;rintro e w1⟨rfl,hg⟩;have Y1:=Fh (VJ.o _ _ _ HJ0.o hg);clear hg
 gi_wp2
 gi_loopw [4] (λs4 wr=>∃(s:Nat) (pre l':List Nat),s<4294967296/\s4= .int .i64 (s:Int)/\Hid (bw μ (μ.Fq+1) s=some l')/\Hid (pre++l'=l)/\Hid (J pre wr)) (λs4 _=>((bw μ (μ.Fq+1) (intOf s4).toNat).getD []).length)
 case atStart=>exact⟨s0,[],l,Nf,rfl,HL,Fh rfl,Y1⟩
 case round=>
  obtain⟨s,pre,l',Nf,rfl,HC,HP,HJ⟩:=hrel;by_cases h0:s=0
  ·subst h0;have HE:Hid (pre=l):=Fh (by have:=HP.o;rw[uu HC.o,List.append_nil]at this;exact this);rw[show((0:Nat):Int)=0 from rfl]
   gi_wp2
   refine⟨λf hf=>(by cases hf),?_⟩
   gi_wp2
   go_end0;exact⟨⟨_,rfl⟩,.inl ⟨pre,HE.o,HJ.o⟩⟩
  ·obtain⟨nx,l2,e1,e2,e3⟩:=ur HC.o h0;have hd:decide ((0:Int)<(s:Int))=true:=by simp;omega
   obtain⟨fn,tmps,assign,body,hy,XR⟩:=HY.o pre (s-1) wr HJ.o ⟨l2,by rw[<-e2];exact HP.o⟩;simp only [show((s-1:Nat):Int)=(s:Int)-1 by omega]at hy;have VG:=Fh e1;have XS:=Fh e3;have Mk:Hid ((pre++ [s-1])++l2=l):=Fh (by rw[List.append_assoc,List.singleton_append,<-e2];exact HP.o);have HM:Hid (((bw μ (μ.Fq+1) nx).getD []).length<((bw μ (μ.Fq+1) s).getD []).length):=Fh (by rw[e3,HC.o,e2];simp);clear e1 e2 e3
   gi_wp2
   refine⟨λh=>(by cases h),XR.mono ?_⟩;rintro e W3(⟨rfl,Ug⟩|⟨rfl,PB⟩)
   ·have Nc:=Fh (Wk.o _ _ Ug);have y1:=Nc.o.x1;have Ml:=λm=>(callsIn_wide (n:=m)).2 (eG Nc.o.has (s-1) 8 4 nx (by omega) (by omega) VG.o);simp only [show((s-1:Nat):Int)=(s:Int)-1 by omega]at Ml;have Nd:=Fh Ml;have Uh:=Fh Ug;clear Ug Ml
    gi_wp2
    refine⟨trivial,λ_=>by omega,(Nd.o _).mono ?_⟩;rintro e w4⟨rfl,F9⟩;have HJ4:=Fh (VJ.o _ _ _ Uh.o F9);clear F9
    gi_wp2
    go_roundw
    case rel=>exact⟨nx,_,l2,cH VG.o,rfl,XS,Mk,HJ4⟩
    case measure=>simpa[intOf]using HM.o
   ·have Uh:=Fh PB;clear PB
    gi_wp2
    go_end0;exact⟨⟨_,rfl⟩,.inr ⟨_,trivial,Uh.o⟩⟩
theorem By(n mb c:Nat)(w:World):CallsIn Fence.wide n prog 333 #[.pointer (some ⟨mb,0,none⟩),.int .i64 (c:Int)] w λe w'=>e= .returned (.func (.func 353) #[] #[.pointer (some ⟨w.heap.size,0,none⟩),.pointer (some ⟨w.heap.size+1,0,none⟩)])/\w'=(w.alloc (.cells #[.pointer (some ⟨mb,0,none⟩)] 68)).alloc (.cells #[.int .i64 (c:Int)] 3):=by
 refine callsIn_of_wp func333 rfl trivial ?_ rfl;simp only [ntmps333,List.size_toArray,List.length_cons,List.length_nil,Nat.reduceAdd,Nat.reduceSub,Array.replicate_succ,Array.replicate_zero,List.push_toArray,List.append_toArray,List.nil_append,List.cons_append]
 gi_wp2
 refine bodyPost_ret (results_tmp rfl _ _ _) rfl ?_;exact⟨by simp,rfl⟩
structure O5(O:av)(μ:Mm)(w0:World)(b1 b2 b5 b8 b9 c s p:Nat)(q:Bool)(W:World):Prop where
 mg:MG O w0 μ W
 ge:w0.heap.size<=b1/\w0.heap.size<=b2/\w0.heap.size<=b5/\w0.heap.size<=b8/\w0.heap.size<=b9
 x1:Whole W b1 68 #[.pointer (some ⟨O.mb,0,none⟩)]
 x2:Whole W b2 3 #[.int .i64 (c:Int)]
 x5:Whole W b5 3 #[.int .i64 (s:Int)]
 x8:Whole W b8 3 #[.int .i64 (p:Int)]
 x9:Whole W b9 4 #[.bool q]
theorem O5.kept{w0 A C:World}{b1 b2 b5 b8 b9 c s p:Nat}{q:Bool}(hw:ao O μ w0)(h:O5 O μ w0 b1 b2 b5 b8 b9 c s p q A){S:Nat->Prop}(hg:MG O w0 μ C)(k:aa S A C)(hs:∀j,w0.heap.size<=j->S j->j≠b1/\j≠b2/\j≠b5/\j≠b8/\j≠b9):O5 O μ w0 b1 b2 b5 b8 b9 c s p q C:=by
 obtain⟨g1,g2,g5,g8,g9⟩:=h.ge;exact⟨hg,h.ge,k.whole h.x1 λe=>(hs _ g1 e).1 rfl,k.whole h.x2 λe=>(hs _ g2 e).2.1 rfl,k.whole h.x5 λe=>(hs _ g5 e).2.2.1 rfl,k.whole h.x8 λe=>(hs _ g8 e).2.2.2.1 rfl,k.whole h.x9 λe=>(hs _ g9 e).2.2.2.2 rfl⟩
theorem O5.step{w0 A C:World}{b1 b2 b5 b8 b9 c s p:Nat}{q:Bool}(hw:ao O μ w0)(h:O5 O μ w0 b1 b2 b5 b8 b9 c s p q A)(k:MG O A μ C):O5 O μ w0 b1 b2 b5 b8 b9 c s p q C:=
 h.kept hw (h.mg.trans k) k.kept λj hj e=>absurd e (hw.Fu hj)
theorem O5.put{w0 A:World}{b1 b2 b5 b8 b9 c s p:Nat}{q:Bool}(hw:ao O μ w0)(h:O5 O μ w0 b1 b2 b5 b8 b9 c s p q A){l:Nat}{o o':Obj}(hB:w0.heap.size<=l)(hl:A.heap[l]? =some o)(hc:o.isCells=false):O5 O μ w0 b1 b2 b5 b8 b9 c s p q (A.putObj l o'):=by
 have hk:aa (λk=>k=l) A (A.putObj l o'):=(aa.grown (grownBy_putObj' A l o')).mono λk _ e=>(Fk e).symm;have hne:∀ {b:Nat} {T:TypeId} {xs:Array Value},Whole A b T xs->b≠l:=fun {b T xs} hw e=>by
  subst e;unfold Whole at hw;rw[hl]at hw;cases hw;cases hc
 exact h.kept hw (MG.beside hw h.mg hk λk e=>by rw[e];exact hB) hk λj _ e=>by
  rw[e];exact⟨λx=>hne h.x1 x.symm,λx=>hne h.x2 x.symm,λx=>hne h.x5 x.symm,λx=>hne h.x8 x.symm,λx=>hne h.x9 x.symm⟩
end
end Go.Proofs.YtifkphcaelafjaaGreatDoor
namespace Go.FC
def bZ(Hl:Nat):List Nat->Nat->Bool×Nat
 | [],p=>(false,p)
 |x::r,p=>if Hl<x then(false,p)else if x=Hl then(true,p)else bZ Hl r (x+1)
theorem lU{m:Mm}{Hl:Nat}:∀ {k f p:Nat} {l:List Nat},bw m k f=some l->gm m Hl k f p=some (bZ Hl l p)
 |0,f,p,l,h=>by
  rw[bw]at h;cases h
 |k+1,f,p,l,h=>by
  rw[bw]at h;rw[gm];by_cases h0:f=0
  ·rw[if_pos h0]at h⊢;obtain rfl:=Fk h;rfl
  ·rw[if_neg h0]at h⊢;obtain⟨n,h1,h⟩:=Fi h;obtain⟨l',h2,h⟩:=Fi h;obtain rfl:=Fk h;rw[bZ];by_cases h3:Hl<f-1
   ·rw[if_pos h3,if_pos h3]
   ·rw[if_neg h3,if_neg h3];by_cases h4:f-1=Hl
    ·rw[if_pos h4,if_pos h4]
    ·rw[if_neg h4,if_neg h4,h1,Fj,lU h2,show f-1+1=f by omega]
theorem lV{m:Mm}{c Hl:Nat}{q:Bool×Nat}(h:cA c Hl m=some q):∃f l,m.root (3+c)=some f/\bw m (m.Fq+1) f=some l/\q=bZ Hl l 0:=by
 unfold cA at h;obtain⟨f,h1,h⟩:=Fi h;obtain⟨l,h2,h⟩:=Fi h;rw[lU h2]at h;exact⟨f,l,h1,h2,(Fk h).symm⟩
def iX(pre:List Nat):Nat:=(pre.getLast?.map (·+1)).getD 0
theorem wL(pre:List Nat)(x:Nat):iX (pre++ [x])=x+1:=by simp[iX]
theorem lW{Hl:Nat}:∀ {pre:List Nat} {r:List Nat} {p:Nat},(∀x∈pre,x<Hl)->bZ Hl (pre++r) p=bZ Hl r (if pre= []then p else iX pre)
 | [],r,p,_=>rfl
 |x::pre,r,p,h=>by
  have hx:=h x (by simp);rw[List.cons_append,bZ,if_neg (by omega),if_neg (by omega),lW λy hy=>h y (by simp[hy]),if_neg (by simp:¬(x::pre= []))];by_cases e:pre= []
  ·subst e;rfl
  ·rw[if_neg e,iX,iX,List.getLast?_cons_of_ne_nil e]
theorem oW{Hl:Nat}{pre r:List Nat}(h:∀x∈pre,x<Hl):bZ Hl (pre++r) 0=bZ Hl r (iX pre):=by
 rw[lW h];by_cases e:pre= []
 ·subst e;rfl
 ·rw[if_neg e]
end Go.FC
namespace Go.Proofs.YtifkphcaelafjaaGreatDoor
open Tryz
open Go.RowKit Go.Colm Go.FC Go.Maps Go.Shelf Go.Rft
attribute [local go_sem] Oper.semAt_some
section
variable{O:av}{μ:Mm}
theorem Lh:∀ {k f:Nat} {l:List Nat},bw μ k f=some l->f<4294967296->∀x∈l,x+1<4294967296
 |0,f,l,h,_=>by
  rw[bw]at h;cases h
 |k+1,f,l,h,hf=>by
  rw[bw]at h;by_cases h0:f=0
  ·rw[if_pos h0]at h;obtain rfl:=Fk h;simp
  ·rw[if_neg h0]at h;obtain⟨n,h1,h⟩:=Fi h;obtain⟨l',h2,h⟩:=Fi h;obtain rfl:=Fk h;intro x hx;rcases List.mem_cons.1 hx with rfl|hx
   ·omega
   ·exact Lh h2 (cH h1) x hx
theorem O5.setP{w0 A:World}{b1 b2 b5 b8 b9 c s p:Nat}{q:Bool}(hw:ao O μ w0)(h:O5 O μ w0 b1 b2 b5 b8 b9 c s p q A)(hn:b8≠b1/\b8≠b2/\b8≠b5/\b8≠b9)(p':Nat):O5 O μ w0 b1 b2 b5 b8 b9 c s p' q (A.setCell ⟨b8,0,none⟩ (.int .i64 (p':Int))):=by
 have hk:aa (λk=>k=b8) A (A.setCell ⟨b8,0,none⟩ (.int .i64 (p':Int))):=(aa.refl (λk=>k=b8) A).setCell (.inl rfl) _;exact⟨MG.beside hw h.mg hk λk e=>by rw[e];exact h.ge.2.2.2.1,h.ge,hk.whole h.x1 λe=>hn.1 e.symm,hk.whole h.x2 λe=>hn.2.1 e.symm,hk.whole h.x5 λe=>hn.2.2.1 e.symm,h.x8.put 0 _,hk.whole h.x9 λe=>hn.2.2.2 e.symm⟩
theorem O5.setQ{w0 A:World}{b1 b2 b5 b8 b9 c s p:Nat}{q:Bool}(hw:ao O μ w0)(h:O5 O μ w0 b1 b2 b5 b8 b9 c s p q A)(hn:b9≠b1/\b9≠b2/\b9≠b5/\b9≠b8)(q':Bool):O5 O μ w0 b1 b2 b5 b8 b9 c s p q' (A.setCell ⟨b9,0,none⟩ (.bool q')):=by
 have hk:aa (λk=>k=b9) A (A.setCell ⟨b9,0,none⟩ (.bool q')):=(aa.refl (λk=>k=b9) A).setCell (.inl rfl) _;exact⟨MG.beside hw h.mg hk λk e=>by rw[e];exact h.ge.2.2.2.2,h.ge,hk.whole h.x1 λe=>hn.1 e.symm,hk.whole h.x2 λe=>hn.2.1 e.symm,hk.whole h.x5 λe=>hn.2.2.1 e.symm,hk.whole h.x8 λe=>hn.2.2.2 e.symm,h.x9.put 0 _⟩
theorem lX{w0 W:World}(hw:ao O μ w0)(h:MG O w0 μ W)(D nq:Nat)(hD:w0.heap.size<=D):MG O w0 μ ((W.drewN nq).putObj D (.deferred none)):=
 MG.beside hw (h.drewN nq) ((aa.grown (grownBy_putObj' _ D _)).mono λk _ e=>(Fk e).symm) λk (e:k=D)=>by rw[e];exact hD
theorem n7{n:Nat}{P:Program}{c:Code}{Q:Exit->Act->World->Prop}{a:Act}{w:World}(h:c.wpIn Fence.wide n P (Exit.noGoto Q) a w):(Code.scope c).wpIn Fence.wide n P Q a w:=wpIn_wide.2 (wp_scope_straight (wpIn_wide.1 h))
theorem wM(n:Nat)(hn:12<=n)(w:World)(h:ao O μ w)(c s:Nat)(q:Bool×Nat)(hc:c<10)(hs:s<4294967296)(hv:cA c s μ=some q):
  CallsIn Fence.wide n prog 286 #[.pointer (some ⟨O.mb,0,none⟩),.int .i64 (c:Int),.int .i64 (s:Int)] w λe w'=>e= .returned (.tuple #[.bool q.1,.int .i64 (q.2:Nat)])/\MG O w μ w':=by
 obtain⟨f,l,h1,h2,rfl⟩:=lV hv;refine callsIn_of_wp_marks func286 rfl trivial ?_ rfl;simp only [ntmps286,List.size_toArray,List.length_cons,List.length_nil,Nat.reduceAdd,Nat.reduceSub,Array.replicate_succ,Array.replicate_zero,List.push_toArray,List.append_toArray,List.nil_append,List.cons_append]
 gi_wp2
 apply n7
 gi_wp2
 apply wpIn_label
 gi_wp2
 refine⟨trivial,λ_=>by omega,(By _ _ _ _).mono ?_⟩;rintro e w1⟨rfl,FJ⟩
 gi_wp2
 clear FJ;obtain⟨B,hB⟩:=Fp w.heap.size;obtain⟨w2,FL⟩:=Fp (((((w.alloc (.cells #[.int .i64 (s:Int)] 3)).alloc (.cells #[.int .i64 0] 3)).alloc (.cells #[.bool false] 4)).alloc (.cells #[.pointer (some ⟨O.mb,0,none⟩)] 68)).alloc (.cells #[.int .i64 (c:Int)] 3));have IU:w2.heap.size=B+1+1+1+1+1:=by rw[FL,hB];simp
 have h0:O5 O μ w (B+1+1+1) (B+1+1+1+1) B (B+1) (B+1+1) c s (iX []) false w2:=by
  rw[hB,FL];refine⟨((((MG.refl h).alloc _).alloc _).alloc _).alloc _|>.alloc _,by omega,?_,?_,?_,?_,?_⟩
  ·have:=((aa.refl (λ_=>False) _).alloc (.cells #[.int .i64 (c:Int)] 3)).whole (Whole.new (((w.alloc (.cells #[.int .i64 (s:Int)] 3)).alloc (.cells #[.int .i64 0] 3)).alloc (.cells #[.bool false] 4)) 68 #[.pointer (some ⟨O.mb,0,none⟩)]) id;simpa only [World.size_alloc]using this
  ·have:=Whole.new ((((w.alloc (.cells #[.int .i64 (s:Int)] 3)).alloc (.cells #[.int .i64 0] 3)).alloc (.cells #[.bool false] 4)).alloc (.cells #[.pointer (some ⟨O.mb,0,none⟩)] 68)) 3 #[.int .i64 (c:Int)];simpa only [World.size_alloc]using this
  ·exact((((aa.refl (λ_=>False) _).alloc _).alloc _).alloc _|>.alloc _).whole (Whole.new w 3 #[.int .i64 (s:Int)]) id
  ·have:=((((aa.refl (λ_=>False) _).alloc (.cells #[.bool false] 4)).alloc (.cells #[.pointer (some ⟨O.mb,0,none⟩)] 68)).alloc (.cells #[.int .i64 (c:Int)] 3)).whole (Whole.new (w.alloc (.cells #[.int .i64 (s:Int)] 3)) 3 #[.int .i64 0]) id;simp only [World.size_alloc]at this;exact this
  ·have:=(((aa.refl (λ_=>False) _).alloc (.cells #[.pointer (some ⟨O.mb,0,none⟩)] 68)).alloc (.cells #[.int .i64 (c:Int)] 3)).whole (Whole.new ((w.alloc (.cells #[.int .i64 (s:Int)] 3)).alloc (.cells #[.int .i64 0] 3)) 4 #[.bool false]) id;simpa only [World.size_alloc]using this
 have HH:=Fh h;rw[<-hB,<-FL];have HB:Hid (w.heap.size=B):=Fh hB.symm;have Lb:=Fh IU;clear FL hv h hB;refine gZ rfl (by omega) (gf:=353) (lb:= #[.pointer (some ⟨B+1+1+1,0,none⟩),.pointer (some ⟨B+1+1+1+1,0,none⟩)]) rfl trivial (enters_of func353 (by kernel_rfl) rfl)
  (zC (n-1) (by omega) (B+1+1+1) (B+1+1+1+1) c f l hc h1 h2)
  (λA C k o hg hk ho hc=> ?keeps) (λ_=>rfl)
  (λpre W=>(∀x∈pre,x<s)/\O5 O μ w (B+1+1+1) (B+1+1+1+1) B (B+1) (B+1+1) c s (iX pre) false W)
  (λe pre W=>e= .exit 0/\∃q p,bZ s l 0=(q,p)/\O5 O μ w (B+1+1+1) (B+1+1+1+1) B (B+1) (B+1+1) c s p q W)
  ?hR (λpre A C hA k=>⟨hA.1,hA.2.step HH.o k⟩) (λe pre A C hA k=>⟨hA.1,hA.2.imp λq x=>x.imp λp y=>⟨y.1,y.2.step HH.o k⟩⟩)
  (λpre A k o o' hA hk ho hc=>⟨hA.1,hA.2.put HH.o (by have:=HB.o;have:=Lb.o;omega) ho hc⟩) (λe pre A k o o' hA hk ho hc=>⟨hA.1,hA.2.imp λq x=>x.imp λp y=>⟨y.1,y.2.put HH.o (by have:=HB.o;have:=Lb.o;omega) ho hc⟩⟩)
  (λo o' _ _=>⟨by simp,h0.kept HH.o ((h0.mg.alloc _).alloc _) (((aa.refl (λ_=>False) w2).alloc _).alloc _) λ_ _ e=>e.elim⟩)
  (λx=> {tmps:= #[.pointer (some ⟨O.mb,0,none⟩),.int .i64 (c:Int),.int .i64 (s:Int),undef,undef,.pointer (some ⟨B,0,none⟩),.bool false,.int .i64 0,.pointer (some ⟨B+1,0,none⟩),.pointer (some ⟨B+1+1,0,none⟩),.int .i64 (x:Int),.pointer (some ⟨O.mb,0,none⟩),.int .i64 (c:Int),
    .func (.func 353) #[] #[.pointer (some ⟨B+1+1+1,0,none⟩),.pointer (some ⟨B+1+1+1+1,0,none⟩)],.int .i64 (x:Int),undef,undef,undef,undef,undef,undef,undef,undef,undef,undef,undef,undef],defers:= []})
  ?assign ?body ?done ?stop
 case keeps=>
  exact(hg.kept.block k (Array.getElem?_eq_some_iff.1 ho).1 (HH.o.Fu (by have:=HB.o;have:=Lb.o;omega))).trans ho
 case hR=>
  rintro pre A⟨h1,h2⟩;exact⟨h2.mg.has,HH.o.Fu h2.ge.1,HH.o.Fu h2.ge.2.1,h2.x1.cell 0,h2.x2.cell 0⟩
 case assign=>
  intro k x W K hK
  gi_wp2
  exact hK
 case body=>
  rintro k pre x W⟨QW,hI⟩⟨r,hr⟩;have HI:=Fh hI;have HPRE:=Fh QW;have hx4:x+1<4294967296:=Lh h2 (aU h1 (by omega)) x (by rw[<-hr];simp);have RJ:=oW (r:=x::r) QW;rw[hr]at RJ;have XK:=Fh RJ;have y5:W.cell? ⟨B,0,none⟩=some (.int .i64 (s:Int)):=hI.x5.cell 0;have RH:Hid (W.frozen? ⟨B+1,0,none⟩=false/\W.frozen? ⟨B+1+1,0,none⟩=false):=Fh ⟨hI.x8.frozen 0,hI.x9.frozen 0⟩;have z8:=hI.x8.frozen 0;have z9:=hI.x9.frozen 0;have y8:W.cell? ⟨B+1,0,none⟩=some (.int .i64 (iX pre:Int)):=hI.x8.cell 0;have y9:W.cell? ⟨B+1+1,0,none⟩=some (.bool false):=hI.x9.cell 0;clear hI QW RJ hr;by_cases h1:s<x
  ·have d1:decide ((s:Int)<(x:Int))=true:=by simp;omega
   gi_wp2
   refine⟨KeepsFrom.refl _ _,rfl,false,iX pre,?_,HI.o⟩;rw[XK.o,bZ,if_pos h1]
  ·have d1:decide ((s:Int)<(x:Int))=false:=by simp;omega
   by_cases h2:x=s
   ·subst h2;have d2:((x:Int)==(x:Int))=true:=by simp
    gi_wp2
    refine⟨(KeepsOthers.setCell _ _ _).from _,rfl,true,iX pre,?_,?_⟩
    ·rw[XK.o,bZ,if_neg h1,if_pos rfl]
    ·exact HI.o.setQ HH.o (by omega) true
   ·have d2:((x:Int)==(s:Int))=false:=by rw[Fo];omega
    gi_wp2
    refine⟨(KeepsOthers.setCell _ _ _).from _,trivial,?_,?_⟩
    ·intro y hy;rcases List.mem_append.1 hy with hy|hy
     ·exact HPRE.o y hy
     ·simp at hy;omega
    ·rw[wL];exact HI.o.setP HH.o (by omega) (x+1)
 case done=>
  rintro D xs W hD rfl⟨QW,hI⟩ hK;have y8:W.cell? ⟨B+1,0,none⟩=some (.int .i64 (iX xs:Int)):=hI.x8.cell 0;have y9:W.cell? ⟨B+1+1,0,none⟩=some (.bool false):=hI.x9.cell 0;have RJ:=oW (r:= []) QW;rw[List.append_nil,bZ]at RJ;have XK:=Fh RJ;clear RJ
  gi_wp2
  gi_quiet (fail)
  gi_wp2
  rw[Exit.noGoto_ret];refine⟨by simp,.inl ⟨_,_,rfl,run_takeDeferred hK,?_⟩⟩;exact⟨_,(results_tmp2 (t:=6) (u:=7) rfl _ _ _).trans rfl,by rw[XK.o];rfl,lX HH.o hI.mg D nq (by have:=HB.o;have:=Lb.o;omega)⟩
 case stop=>
  rintro D e pre W hD _⟨rfl,q,p,hq,hI⟩ hK;have y8:W.cell? ⟨B+1,0,none⟩=some (.int .i64 (p:Int)):=hI.x8.cell 0;have y9:W.cell? ⟨B+1+1,0,none⟩=some (.bool q):=hI.x9.cell 0;have XK:=Fh hq;clear hq
  gi_wp2
  gi_quiet (fail)
  gi_wp2
  rw[Exit.noGoto_ret];refine⟨by simp,.inl ⟨_,_,rfl,run_takeDeferred hK,?_⟩⟩;exact⟨_,(results_tmp2 (t:=6) (u:=7) rfl _ _ _).trans rfl,by rw[XK.o];rfl,lX HH.o hI.mg D nq (by have:=HB.o;have:=Lb.o;omega)⟩
theorem cJ{c s:Nat}{q:Bool×Nat}(hv:cA c s μ=some q)(hc:c<10):q.2<4294967296:=by
 obtain⟨f,l,h1,h2,rfl⟩:=lV hv;have hl:=Lh h2 (aU h1 (by omega))
 suffices h:∀(l:List Nat) (p:Nat),p<4294967296->(∀x∈l,x+1<4294967296)->(bZ s l p).2<4294967296 from h l 0 (by omega) hl
 intro l
 induction l with
 |nil=>exact λp hp _=>hp
 |cons x r ih=>
  intro p hp hx;rw[bZ];split
  ·exact hp
  ·split
   ·exact hp
   ·exact ih _ (hx x (by simp)) λy hy=>hx y (by simp[hy])
theorem cL{w:World}(h:ao O μ w)(c s:Nat)(q:Bool×Nat)(hc:c<10)(hs:s<4294967296)(hv:cA c s μ=some q):
  Calls prog 286 #[.pointer (some ⟨O.mb,0,none⟩),.int .i64 (c:Int),.int .i64 (s:Int)] w λe w'=>e= .returned (.tuple #[.bool q.1,.int .i64 (q.2:Nat)])/\MG O w μ w':=
 (callsIn_wide (n:=12)).1 (wM 12 (Fm _) w h c s q hc hs hv)
end
section
variable{O:av}{μ:Mm}{w:World}
theorem rv(h:ao O μ w)(c f:Nat)(hc:c<10)(hv:μ.root (3+c)=some f):Calls prog 292 #[.pointer (some ⟨O.mb,0,none⟩),.int .i64 (c:Int)] w λe w'=>e= .returned (.int .i64 ((f:Int)-1))/\MG O w μ w':=by
 have Ov:=Fh (gX h);have Tl:=Fh (λW=>sX c hc W);have Lf:=Fh (λW (hg:MG O w μ W)=>j5 hg.has c f hc hv);have Uc:=aU hv (by omega);have FE:Hid (MG O w μ w):=Fh (MG.refl h);clear h hv;go_in;go_wp2_with fail;refine Ov.o.mono ?_;rintro e w1⟨rfl,hb⟩;have FA:=Fh (FE.o.below hb);clear hb;go_wp2_with fail;refine(Tl.o _).mono ?_;rintro e w2⟨rfl,rfl⟩;go_wp2_with fail;refine(Lf.o _ FA.o).mono ?_;rintro e w3⟨rfl,hg⟩;have FT:=Fh (FA.o.trans hg);clear hg;go_wp2;go_ret;exact⟨rfl,FT.o⟩
theorem uv(h:ao O μ w)(s off v b5 b6:Nat)(μ':Mm)(ho:off<=16)(x5:w.cell? ⟨b5,0,none⟩=some (.pointer (some ⟨O.mb,0,none⟩)))(x6:w.cell? ⟨b6,0,none⟩=some (.int .i64 (s:Int)))(hv:dQ s off 2 v μ=some μ'):
  Calls prog 334 #[.int .i64 (off:Int),.int .u64 (v:Int),.pointer (some ⟨b5,0,none⟩),.pointer (some ⟨b6,0,none⟩)] w λe w'=>e= .returned (.tuple #[])/\MG O w μ' w':=by
 have HP:=Fh (fg h s off 2 v μ' ho hv);clear h hv;go_in;go_wp2_with fail;refine HP.o.mono ?_;rintro e w1⟨rfl,hg⟩;have HG:=Fh hg;clear hg;go_wp2;go_end0;exact⟨rfl,HG.o⟩
theorem Bz(h:ao O μ w)(s off v b5 b6:Nat)(μ':Mm)(ho:off<=16)(x5:w.cell? ⟨b5,0,none⟩=some (.pointer (some ⟨O.mb,0,none⟩)))(x6:w.cell? ⟨b6,0,none⟩=some (.int .i64 (s:Int)))(hv:dQ s off 4 v μ=some μ'):
  Calls prog 335 #[.int .i64 (off:Int),.int .u64 (v:Int),.pointer (some ⟨b5,0,none⟩),.pointer (some ⟨b6,0,none⟩)] w λe w'=>e= .returned (.tuple #[])/\MG O w μ' w':=by
 have HP:=Fh (fg h s off 4 v μ' ho hv);clear h hv;go_in;go_wp2_with fail;refine HP.o.mono ?_;rintro e w1⟨rfl,hg⟩;have HG:=Fh hg;clear hg;go_wp2;go_end0;exact⟨rfl,HG.o⟩
def wrV(b5 b6 c lv fr:Nat):Array Value:= #[.func (.func 334) #[] #[.pointer (some ⟨b5,0,none⟩),.pointer (some ⟨b6,0,none⟩)],.int .i64 0,.int .u64 (c:Int),
 .func (.func 334) #[] #[.pointer (some ⟨b5,0,none⟩),.pointer (some ⟨b6,0,none⟩)],.int .i64 2,.int .u64 (lv:Int),
 .func (.func 335) #[] #[.pointer (some ⟨b5,0,none⟩),.pointer (some ⟨b6,0,none⟩)],.int .i64 4,.int .u64 (fr:Int)]
theorem Dx(h:ao O μ w)(s c lv fr:Nat)(μ':Mm)(hs:s<μ.Fq)(hv:gS s c lv fr μ=some μ'):
  Calls prog 287 #[.pointer (some ⟨O.mb,0,none⟩),.int .i64 (s:Int),.int .i64 (c:Int),.int .i64 (lv:Int),.int .u32 (fr:Int)] w λe w'=>e= .returned (.int .i64 0)/\MG O w μ' w':=by
 unfold gS at hv;by_cases hc:c<=9
 case neg=>rw[if_neg hc]at hv;cases hv
 rw[if_pos hc]at hv;obtain⟨m1,h1,hv⟩:=Fi hv;obtain⟨m2,h2,h3⟩:=Fi hv;have QX:lv<65536:=(eY (gY h2).2).2.1;have GF:fr<4294967296:=(eY (gY h3).2).2.1;obtain⟨b5,Io⟩:=Fp w.heap.size;obtain⟨w0,Fx⟩:=Fp ((w.alloc (.cells #[.pointer (some ⟨O.mb,0,none⟩)] 68)).alloc (.cells #[.int .i64 (s:Int)] 3));have FM:Below w.heap.size w w0:=by rw[Fx];exact((Below.refl _ w).alloc (Fm _) _).alloc (by simp) _
 have QY:ao O μ w0:=h.below FM;have QZ:Hid (w0.cell? ⟨b5,0,none⟩=some (.pointer (some ⟨O.mb,0,none⟩))):=Fh (by
  rw[Fx,Io];exact((aa.refl (λ_=>False) _).alloc _).cell ((Whole.new w 68 #[.pointer (some ⟨O.mb,0,none⟩)]).cell 0) id)
 have Wi:Hid (w0.cell? ⟨b5+1,0,none⟩=some (.int .i64 (s:Int))):=Fh (by
  rw[Fx,Io];have:=(Whole.new (w.alloc (.cells #[.pointer (some ⟨O.mb,0,none⟩)] 68)) 3 #[.int .i64 (s:Int)]).cell 0;simp only [World.size_alloc]at this;exact this)
 have HN:Hid (∀k,w.heap.size<=k->¬au O k):=Fh (λk hk=>h.Fu hk);have Mi:=Fh Io;have GW:=Fh FM;have FE:Hid (MG O w0 μ w0):=Fh (MG.refl QY);have Ov:=Fh (gX QY);have Sr:=Fh (λW (hg:MG O w0 μ W)=>sV hg.has s hs);have Tl:=Fh (λW=>sX c (show c<10 by omega) W);have H1:=Fh h1;have H2:=Fh h2;have H3:=Fh h3;have c1:decide ((lv:Int)<0)=false:=by simp
 have c2:decide ((65535:Int)<(lv:Int))=false:=by simp;omega
 have r1:IntKind.u64.wrap (c:Int)=(c:Int):=by rw[IntKind.wrap_u64];omega
 have r2:IntKind.u64.wrap (lv:Int)=(lv:Int):=by rw[IntKind.wrap_u64];omega
 have r3:IntKind.u64.wrap (fr:Int)=(fr:Int):=by rw[IntKind.wrap_u64];omega
 have JE:Hid (∀(W:World) (m:Mm),MG O w0 m W->W.cell? ⟨b5,0,none⟩=some (.pointer (some ⟨O.mb,0,none⟩))/\W.cell? ⟨b5+1,0,none⟩=some (.int .i64 (s:Int))):=Fh (λW m hg=>
  ⟨hg.kept.cell QZ.o (HN.o _ (by rw[<-Mi.o];exact Fm _)),hg.kept.cell Wi.o (HN.o _ (by rw[<-Mi.o];exact Nat.le_succ _))⟩)
 clear h hv h1 h2 h3 QY FM hs;go_in;go_upto_region 1 with fail;rw[<-Fx,<-Io];clear Fx Io;obtain⟨x5,x6⟩:=JE.o w0 _ FE.o;go_wp2_with fail;refine Ov.o.mono ?_;rintro e w1⟨rfl,hb⟩;have FA:=Fh (FE.o.below hb);clear hb;clear x5 x6;obtain⟨x5,x6⟩:=JE.o w1 _ FA.o;go_wp2_with fail;refine(Sr.o _ FA.o).mono ?_;rintro e w2⟨rfl,hb⟩;have FK:=Fh (FA.o.below hb);clear hb;clear x5 x6;go_wp2_with fail;refine(Tl.o _).mono ?_;rintro e w3⟨rfl,rfl⟩;go_upto_region 9 with fail;obtain⟨w4,Hn⟩:=Fp (w3.alloc (.cells (wrV b5 (b5+1) c lv fr) 356));obtain⟨fb,QN⟩:=Fp w3.heap.size;have Kt:Whole w4 fb 356 (wrV b5 (b5+1) c lv fr):=by rw[Hn,QN];exact Whole.new _ _ _
 have FW:Hid (MG O w0 μ w4):=Fh (by rw[Hn];exact FK.o.alloc _);have Sk:=Fh Kt;have HNF:Hid (¬au O fb):=Fh (HN.o _ (by rw[QN];exact Nat.le_trans GW.o.size FK.o.kept.size));have HW4:=Fh Hn;have HFB:=Fh QN;have Hz:∃GC:Nat->Mm,GC 0=μ/\GC 1=m1/\GC 2=m2/\GC 3=μ':=⟨λi=> [μ,m1,m2,μ'].getD i μ',rfl,rfl,rfl,rfl⟩;obtain⟨T,t0,t1,t2,t3⟩:=Hz;rw[<-t0]at H1 FW;rw[<-t1]at H1 H2;rw[<-t2]at H2 H3;rw[<-t3]at H3;have Pp:=Fh t3;clear Kt Hn QN t0 t1 t2 t3;go_wp2_with fail;rw[<-HFB.o]
 try rw[show w3.alloc (.cells #[.func (.func 334) #[] #[.pointer (some ⟨b5,0,none⟩),.pointer (some ⟨b5+1,0,none⟩)],.int .i64 0,.int .u64 (c:Int),.func (.func 334) #[] #[.pointer (some ⟨b5,0,none⟩),.pointer (some ⟨b5+1,0,none⟩)],.int .i64 2,.int .u64 (lv:Int),.func (.func 335) #[] #[.pointer (some ⟨b5,0,none⟩),.pointer (some ⟨b5+1,0,none⟩)],.int .i64 4,.int .u64 (fr:Int)] 356)=w4 from HW4.o.symm]
 go_loopw [14,52] (λ_ s52 wr=>∃i:Nat,i<=3/\s52= .int .i64 i/\Hid (MG O w4 (T i) wr)) (λ_ s52 _=>match s52 with| .int _ m=>3-m.toNat|_=>0)
 case atStart=>exact⟨0,by omega,rfl,Fh (MG.refl FW.o.has)⟩
 case round=>
  obtain⟨i,hi,rfl,HG⟩:=hrel;have hw:=HG.o.kept.whole Sk.o HNF.o;have hcs:i=0\/i=1\/i=2\/i=3:=by omega
  rcases hcs with rfl|rfl|rfl|rfl
  ·have d0:=hw.cell 0;have d1:=hw.cell 1;have d2:=hw.cell 2;unfold wrV at d0 d1 d2;simp only [List.getElem?_toArray,List.getElem?_cons_zero,List.getElem?_cons_succ]at d0 d1 d2;obtain⟨w5,IR⟩:=Fp (wr.alloc (.cells #[.func (.func 334) #[] #[.pointer (some ⟨b5,0,none⟩),.pointer (some ⟨b5+1,0,none⟩)],.int .i64 0,.int .u64 (c:Int)] 356));have NW:Whole w5 wr.heap.size 356 #[.func (.func 334) #[] #[.pointer (some ⟨b5,0,none⟩),.pointer (some ⟨b5+1,0,none⟩)],.int .i64 0,.int .u64 (c:Int)]:=by rw[IR];exact Whole.new _ _ _
   have Gj:Hid (MG O w4 (T 0) w5):=Fh (by rw[IR];exact HG.o.alloc _);have e0:w5.cell? ⟨wr.heap.size,0,none⟩=some (.func (.func 334) #[] #[.pointer (some ⟨b5,0,none⟩),.pointer (some ⟨b5+1,0,none⟩)]):=NW.cell 0;have e1:w5.cell? ⟨wr.heap.size,1,none⟩=some (.int .i64 0):=NW.cell 1;have e2:w5.cell? ⟨wr.heap.size,2,none⟩=some (.int .u64 (c:Int)):=NW.cell 2;obtain⟨y5,y6⟩:=JE.o w5 _ (FW.o.trans Gj.o);have HP:=Fh (uv Gj.o.has s 0 c b5 (b5+1) _ (by omega) y5 y6 H1.o);clear hw NW y5 y6;go_upto_region 12 with fail;rw[<-IR];clear IR;go_wp2_with fail;refine HP.o.mono ?_;rintro e w6⟨rfl,Hm⟩;have GP:=Fh (Gj.o.trans Hm);clear Hm;go_wp2;go_roundw
   case rel=>exact⟨1,by omega,rfl,GP⟩
   case measure=>simp
  ·have d0:=hw.cell 3;have d1:=hw.cell 4;have d2:=hw.cell 5;unfold wrV at d0 d1 d2;simp only [List.getElem?_toArray,List.getElem?_cons_zero,List.getElem?_cons_succ]at d0 d1 d2;obtain⟨w5,IR⟩:=Fp (wr.alloc (.cells #[.func (.func 334) #[] #[.pointer (some ⟨b5,0,none⟩),.pointer (some ⟨b5+1,0,none⟩)],.int .i64 2,.int .u64 (lv:Int)] 356));have NW:Whole w5 wr.heap.size 356 #[.func (.func 334) #[] #[.pointer (some ⟨b5,0,none⟩),.pointer (some ⟨b5+1,0,none⟩)],.int .i64 2,.int .u64 (lv:Int)]:=by rw[IR];exact Whole.new _ _ _
   have Gj:Hid (MG O w4 (T 1) w5):=Fh (by rw[IR];exact HG.o.alloc _);have e0:w5.cell? ⟨wr.heap.size,0,none⟩=some (.func (.func 334) #[] #[.pointer (some ⟨b5,0,none⟩),.pointer (some ⟨b5+1,0,none⟩)]):=NW.cell 0;have e1:w5.cell? ⟨wr.heap.size,1,none⟩=some (.int .i64 2):=NW.cell 1;have e2:w5.cell? ⟨wr.heap.size,2,none⟩=some (.int .u64 (lv:Int)):=NW.cell 2;obtain⟨y5,y6⟩:=JE.o w5 _ (FW.o.trans Gj.o);have HP:=Fh (uv Gj.o.has s 2 lv b5 (b5+1) _ (by omega) y5 y6 H2.o);clear hw NW y5 y6;go_upto_region 12 with fail;rw[<-IR];clear IR;go_wp2_with fail;refine HP.o.mono ?_;rintro e w6⟨rfl,Hm⟩;have GP:=Fh (Gj.o.trans Hm);clear Hm;go_wp2;go_roundw
   case rel=>exact⟨2,by omega,rfl,GP⟩
   case measure=>simp
  ·have d0:=hw.cell 6;have d1:=hw.cell 7;have d2:=hw.cell 8;unfold wrV at d0 d1 d2;simp only [List.getElem?_toArray,List.getElem?_cons_zero,List.getElem?_cons_succ]at d0 d1 d2;obtain⟨w5,IR⟩:=Fp (wr.alloc (.cells #[.func (.func 335) #[] #[.pointer (some ⟨b5,0,none⟩),.pointer (some ⟨b5+1,0,none⟩)],.int .i64 4,.int .u64 (fr:Int)] 356));have NW:Whole w5 wr.heap.size 356 #[.func (.func 335) #[] #[.pointer (some ⟨b5,0,none⟩),.pointer (some ⟨b5+1,0,none⟩)],.int .i64 4,.int .u64 (fr:Int)]:=by rw[IR];exact Whole.new _ _ _
   have Gj:Hid (MG O w4 (T 2) w5):=Fh (by rw[IR];exact HG.o.alloc _);have e0:w5.cell? ⟨wr.heap.size,0,none⟩=some (.func (.func 335) #[] #[.pointer (some ⟨b5,0,none⟩),.pointer (some ⟨b5+1,0,none⟩)]):=NW.cell 0;have e1:w5.cell? ⟨wr.heap.size,1,none⟩=some (.int .i64 4):=NW.cell 1;have e2:w5.cell? ⟨wr.heap.size,2,none⟩=some (.int .u64 (fr:Int)):=NW.cell 2;obtain⟨y5,y6⟩:=JE.o w5 _ (FW.o.trans Gj.o);have HP:=Fh (Bz Gj.o.has s 4 fr b5 (b5+1) _ (by omega) y5 y6 H3.o);clear hw NW y5 y6;go_upto_region 12 with fail;rw[<-IR];clear IR;go_wp2_with fail;refine HP.o.mono ?_;rintro e w6⟨rfl,Hm⟩;have GP:=Fh (Gj.o.trans Hm);clear Hm;go_wp2;go_roundw
   case rel=>exact⟨3,by omega,rfl,GP⟩
   case measure=>simp
  ·clear hw;go_wp2;go_ret;exact⟨rfl,by rw[<-Pp.o];exact MG.after GW.o (FW.o.trans HG.o)⟩
end
def Oy:Go.Shelf.Ren:=⟨λ|165=>145|167=>146|169=>148|240=>240|241=>241|276=>314|277=>315|n=>n,λ|0=>0|3=>3|4=>4|5=>5|9=>9|20=>20|37=>73|70=>211|72=>213|75=>215|80=>217|127=>276|164=>336|n=>n,λ|n=>n⟩
theorem Q0:Go.Proofs.Lays.n165 prog Oy:= {
 mixed:=by kernel_rfl
 f165:=func145.trans (congrArg some (by kernel_rfl))
 f240:=func240.trans (congrArg some (by kernel_rfl))
 f241:=func241.trans (congrArg some (by kernel_rfl))
 f276:=func314.trans (congrArg some (by kernel_rfl))
 f277:=func315.trans (congrArg some (by kernel_rfl))
 t0:=underlying0
 a0:=isAgg0
 z0:=sizeOf0
 v0:=zeroValue0
 t3:=underlying3
 a3:=isAgg3
 z3:=sizeOf3
 v3:=zeroValue3
 t4:=underlying4
 a4:=isAgg4
 z4:=sizeOf4
 v4:=zeroValue4
 t9:=underlying9
 a9:=isAgg9
 z9:=sizeOf9
 v9:=zeroValue9
 t20:=underlying20
 a20:=isAgg20
 z20:=sizeOf20
 v20:=zeroValue20
 t37:=underlying73
 a37:=isAgg73
 z37:=sizeOf73
 v37:=zeroValue73
 t70:=underlying211
 a70:=isAgg211
 z70:=sizeOf211
 v70:=zeroValue211
 t72:=underlying213
 a72:=isAgg213
 z72:=sizeOf213
 v72:=zeroValue213
 t164:=underlying336
 a164:=isAgg336
 z164:=sizeOf336
 v164:=zeroValue336}
theorem Q1:Go.Proofs.Lays.n167 prog Oy:= {
 mixed:=by kernel_rfl
 f167:=func146.trans (congrArg some (by kernel_rfl))
 f240:=func240.trans (congrArg some (by kernel_rfl))
 f276:=func314.trans (congrArg some (by kernel_rfl))
 t0:=underlying0
 a0:=isAgg0
 z0:=sizeOf0
 v0:=zeroValue0
 t4:=underlying4
 a4:=isAgg4
 z4:=sizeOf4
 v4:=zeroValue4
 t5:=underlying5
 a5:=isAgg5
 z5:=sizeOf5
 v5:=zeroValue5
 t9:=underlying9
 a9:=isAgg9
 z9:=sizeOf9
 v9:=zeroValue9
 t20:=underlying20
 a20:=isAgg20
 z20:=sizeOf20
 v20:=zeroValue20
 t37:=underlying73
 a37:=isAgg73
 z37:=sizeOf73
 v37:=zeroValue73
 t70:=underlying211
 a70:=isAgg211
 z70:=sizeOf211
 v70:=zeroValue211
 t72:=underlying213
 a72:=isAgg213
 z72:=sizeOf213
 v72:=zeroValue213
 t75:=underlying215
 a75:=isAgg215
 z75:=sizeOf215
 v75:=zeroValue215
 t164:=underlying336
 a164:=isAgg336
 z164:=sizeOf336
 v164:=zeroValue336}
theorem Q2:Go.Proofs.Lays.n169 prog Oy:= {
 mixed:=by kernel_rfl
 f169:=func148.trans (congrArg some (by kernel_rfl))
 t0:=underlying0
 a0:=isAgg0
 z0:=sizeOf0
 v0:=zeroValue0
 t3:=underlying3
 a3:=isAgg3
 z3:=sizeOf3
 v3:=zeroValue3
 t9:=underlying9
 a9:=isAgg9
 z9:=sizeOf9
 v9:=zeroValue9
 t37:=underlying73
 a37:=isAgg73
 z37:=sizeOf73
 v37:=zeroValue73
 t70:=underlying211
 a70:=isAgg211
 z70:=sizeOf211
 v70:=zeroValue211
 t72:=underlying213
 a72:=isAgg213
 z72:=sizeOf213
 v72:=zeroValue213
 t127:=underlying276
 a127:=isAgg276
 z127:=sizeOf276
 v127:=zeroValue276}
theorem MK:Builder.Extra prog Oy:= {
 sizeBuilder:=by kernel_rfl
 liesBuilder:=by kernel_rfl
 t5:=underlying5
 a5:=isAgg5
 z5:=sizeOf5
 v5:=zeroValue5
 infoByte:=by kernel_rfl
 cellsByte:=by kernel_rfl
 sizeByte:=by kernel_rfl
 neB5:=by decide}
open Go.RowKit in
theorem BA(B b n:Nat)(w:World)(hB:B<=b)(Jg:w.heap[b]? =some (.cells #[.pointer none,.slice none 0 0] 213 (0,0)))(hBw:B<=w.heap.size)(hn:n<=281474976710656):
  Calls prog 145 #[.pointer (some ⟨b,0,none⟩),.int .i64 n] w λe w'=>e= .returned (.tuple #[])/\(Lib.BuilderAt 213 5 B b (.pointer (some ⟨b,0,none⟩)) [] w'/\Below B w w'):=Any.Builder_Grow_fresh Q0 MK B b n w hB Jg hBw hn
open Go.RowKit in
theorem qF(B b:Nat)(bs:List Value)(c:Int)(w:World)(h:Lib.IsBuilder 213 5 B b bs w)(hlen:bs.length+1<=140737488355328)(hBw:B<=w.heap.size):
  Calls prog 146 #[.pointer (some ⟨b,0,none⟩),.int .u8 c] w λe w'=>e= .returned .nilIface/\(Lib.BuilderAt 213 5 B b (.pointer (some ⟨b,0,none⟩)) (bs++ [.int .u8 c]) w'/\Below B w w'):=Any.Builder_WriteByte Q1 MK B b bs c w h hlen hBw
open Go.RowKit in
theorem wO(B b:Nat)(l:List UInt8)(w:World)(h:Lib.IsBuilder 213 5 B b (Lib.byteCells l) w)(hBw:B<=w.heap.size):
  Calls prog 148 #[.pointer (some ⟨b,0,none⟩)] w λe w'=>e= .returned (.string ⟨l.toArray⟩)/\Below B w w':=Any.Builder_String_any Q2 MK B b l w h hBw
open Go.Fy
theorem zD(c:Int)(w:World)(h0:0<=c)(h1:c<256):
  Calls prog 147 #[.int .u8 c] w λe w'=>e= .returned (.int .u8 (qz c))/\w=w':=by
 by_cases a:c<65
 ·have e:=Fh (show qz c=c by unfold qz;rw[if_neg (by omega)]);go_in;go_wp2;go_ret;exact⟨aH e.out.symm,rfl⟩
 ·by_cases b:90<c
  ·have e:=Fh (show qz c=c by unfold qz;rw[if_neg (by omega)]);go_in;go_wp2;go_ret;exact⟨aH e.out.symm,rfl⟩
  ·have e:=Fh (show qz c=c+32 by unfold qz;rw[if_pos (by omega)]);go_in;go_wp2;go_ret;exact⟨aH e.out.symm,rfl⟩
theorem j8(s:ByteArray)(w:World)(hs:s.size<=70368744177664):
  Calls prog 84 #[.string s] w λe w'=>e= .returned (.string ⟨(FI s.data.toList).toArray⟩)/\Below w.heap.size w w':=by
 go_in;go_wp2_with fail;refine(BA w.heap.size w.heap.size s.size _ (Fm _) (tM _ _) (by simp) (by omega)).mono ?_;rintro e w1⟨rfl,hI,hb⟩;have hI1:Lib.IsBuilder 213 5 w.heap.size w.heap.size [] w1:= .inr hI;have FN:Below w.heap.size w w1:=((Below.refl _ w).alloc (Fm _) _).trans hb;clear hI hb;go_wp2_with fail
 go_loopw [10] (λi wr=>∃k:Nat,k<=s.size/\i= .int .i64 k/\Lib.IsBuilder 213 5 w.heap.size w.heap.size (Lib.byteCells (FI (s.data.toList.take k))) wr/\Below w.heap.size w wr) (λi _=>s.size-(intOf i).toNat)
 case atStart=>exact⟨0,Nat.zero_le _,rfl,hI1,FN⟩
 case round=>
  obtain⟨k,hk,rfl,hI,hb⟩:=hrel;by_cases FR:k<s.size
  ·have hr:=kS s[k];have hle:(Lib.byteCells (FI (s.data.toList.take k))).length+1<=140737488355328:=by
    rw[Lib.byteCells_length,gi,List.length_take];omega
   have Hz:Lib.byteCells (FI (s.data.toList.take (k+1)))=Lib.byteCells (FI (s.data.toList.take k))++ [.int .u8 (qz (s[k].toNat:Int))]:=by
    rw[oB _ _ (by simpa using FR),Lib.byteCells_append,wh];rfl
   have Hst:=Fh Hz;clear Hz;go_wp2_with fail;refine(zD _ _ hr.1 hr.2).mono ?_;rintro e w2⟨rfl,rfl⟩;go_wp2_with fail;refine(qF w.heap.size w.heap.size _ _ _ hI hle hb.size).mono ?_;rintro e w2⟨rfl,hI2,FF⟩;go_wp2;go_roundw
   case rel=>exact⟨k+1,by omega,by go_num,by rw[Hst.o];exact .inr hI2,hb.trans FF⟩
   case measure=>simp[intOf];omega
  ·go_wp2_with fail;refine(wO w.heap.size w.heap.size _ _ hI hb.size).mono ?_;rintro e w2⟨rfl,FF⟩;go_wp2;go_ret;exact⟨Dj (by rw[List.take_of_length_le (by simp;omega)]),hb.trans FF⟩
theorem xY(s:ByteArray):s.data.toList.length=s.size:=by simp
theorem fC{l:List UInt8}(h:l.length<1\/63<l.length):aG l=20:=by unfold aG;rw[if_pos h]
theorem zE{l:List UInt8}(h:¬(l.length<1\/63<l.length))(h2:l.all okB=true):aG l=0:=by unfold aG;rw[if_neg h,if_pos h2]
theorem zF{l:List UInt8}(h:¬(l.length<1\/63<l.length))(h2:l.all okB=false):aG l=20:=by unfold aG;rw[if_neg h,if_neg (by rw[h2];simp)]
theorem BB{c:UInt8}(h:126<c.toNat):okB c=false:=by unfold okB;simp;omega
def Su(r:Int):Bool:=decide (33<=r)&&decide (r<=126)&&decide (r≠46)
theorem xZ(r:Int)(w:World):Calls prog 244 #[.int .i32 r] w λe w'=>e= .returned (.bool (Su r))/\w=w':=by
 by_cases c1:33<=r
 ·by_cases c2:r<=126
  ·by_cases c3:r=46
   ·have E:=Fh (show Su r=false by unfold Su;simp[c3]);have t3:(r !=46)=false:=by rw[bne_eq_false_iff_eq];exact c3
    clear c3;go_in;go_wp2;go_ret;exact⟨aq E.o.symm,rfl⟩
   ·have E:=Fh (show Su r=true by unfold Su;simp;omega);have t3:(r !=46)=true:=by rw[bne_iff_ne];exact c3
    clear c3;go_in;go_wp2;go_ret;exact⟨aq E.o.symm,rfl⟩
  ·have E:=Fh (show Su r=false by unfold Su;simp;omega);go_in;go_wp2;go_ret;exact⟨aq E.o.symm,rfl⟩
 ·have E:=Fh (show Su r=false by unfold Su;simp;omega);go_in;go_wp2;go_ret;exact⟨aq E.o.symm,rfl⟩
theorem BC(c:UInt8):Su (c.toNat:Int)=okB c:=by
 unfold Su okB;rw[Bool.eq_iff_iff];simp;omega
theorem BD(r:Nat)(h:128<=r):Su (r:Int)=false:=by unfold Su;simp;omega
theorem Dy(s:ByteArray)(w:World)(hs:s.size<=70368744177664):
  Calls prog 243 #[.string s,.func (.func 244) #[] #[]] w λe w'=>e= .returned (.bool (s.data.toList.all okB))/\Below w.heap.size w w':=by
 go_in;go_wp2_with fail
 go_loopw [] (λwr=>∃pos:Nat,pos<=s.size/\wr.heap[w.heap.size]? =some (.stringIter s pos)/\Hid (∀j,j<pos->(hj:j<s.size)->okB s[j]=true)/\Below w.heap.size w wr) (λwr=>s.size-wr.iterPos w.heap.size)
 case atStart=>
  refine⟨0,Nat.zero_le _,?_,Fh (λj h=>absurd h (by omega)),(Below.refl _ w).alloc (Fm _) _⟩;simpa using World.iter_heap w s 0
 case round=>
  obtain⟨pos,Pm,hit,HO,XT⟩:=hrel;by_cases hp:pos<s.size
  ·by_cases ha:s[pos].toNat<128
   ·have LU:∀ty,(Instr.next (.pointer (some ⟨w.heap.size,0,none⟩)) true ty).run prog wr=_:=λty=>Lib.run_next_ascii_at wr w.heap.size s pos ty hit hp ha;have Y2:=Lib.iterAt_heap wr w.heap.size s pos (pos+1) hit;have Wl:=Lib.below_iterAt XT (k:=w.heap.size) (by omega) s (pos+1);have cm:=λW=>xZ (s[pos].toNat:Int) W;rw[BC]at cm;have XU:wr.iterPos w.heap.size=pos:=by simp only [World.iterPos,hit]
    have Ui:(wr.iterAt w.heap.size s (pos+1)).iterPos w.heap.size=pos+1:=by simp only [World.iterPos,Y2]
    have Hm1:=Fh XU;have Hm2:=Fh Ui;have Hit2:=Fh Y2;have Cm:=Fh cm;clear XU Ui cm Y2;by_cases c:okB s[pos]=true
    ·have Oz:Hid (∀j,j<pos+1->(hj:j<s.size)->okB s[j]=true):=Fh λj hj XV=>by
      by_cases e:j=pos
      ·subst e;exact c
      ·exact HO.o j (by omega) XV
     go_wp2_with fail;refine(Cm.o _).mono ?_;rintro e w2⟨rfl,rfl⟩;go_wp2;go_roundw
     case rel=>exact⟨pos+1,by omega,Hit2.o,Oz,Wl⟩
     case measure=>rw[Hm1.o,Hm2.o];omega
    ·have c':okB s[pos]=false:=by simpa using c
     have E:=Fh (qL (l:=s.data.toList) (k:=pos) (by simpa using hp) c');clear c;go_wp2_with fail;refine(Cm.o _).mono ?_;rintro e w2⟨rfl,rfl⟩;go_wp2;go_ret;exact⟨aq E.o.symm,Wl⟩
   ·have hd:=decode_high s pos hp (by omega);have LU:∀ty,(Instr.next (.pointer (some ⟨w.heap.size,0,none⟩)) true ty).run prog wr=_:=λty=>Lib.run_next_any_at wr w.heap.size s pos ty hit hp;have Wl:=Lib.below_iterAt XT (k:=w.heap.size) (by omega) s (pos+(Utf8.decode s pos).2);have cm:=λW=>xZ ((Utf8.decode s pos).1:Int) W;rw[BD _ hd.1]at cm;have E:=Fh (qL (l:=s.data.toList) (k:=pos) (by simpa using hp) (BB (show 126<s[pos].toNat by omega)));have Cm:=Fh cm;clear cm;go_wp2_with fail;refine(Cm.o _).mono ?_;rintro e w2⟨rfl,rfl⟩;go_wp2;go_ret;exact⟨aq E.o.symm,Wl⟩
  ·have LU:∀ty,(Instr.next (.pointer (some ⟨w.heap.size,0,none⟩)) true ty).run prog wr=_:=λty=>Lib.run_next_end_at wr w.heap.size s pos ty hit hp;have E:=Fh (AT (l:=s.data.toList) λj hj=>HO.o j (by rw[xY]at hj;omega) (by simpa using hj));go_wp2;go_ret;exact⟨aq E.o.symm,XT⟩
theorem IC(s:ByteArray)(w:World)(hs:s.size<=70368744177664):
  Calls prog 151 #[.string s] w λe w'=>e= .returned (.int .i64 (aG s.data.toList))/\Below w.heap.size w w':=by
 by_cases h1:s.size<1
 ·have E:=Fh (fC (l:=s.data.toList) (.inl (by simpa using h1)));go_in;go_wp2;go_ret;exact⟨aH E.o.symm,Below.refl _ _⟩
 ·by_cases h2:63<s.size
  ·have E:=Fh (fC (l:=s.data.toList) (.inr (by simpa using h2)));go_in;go_wp2;go_ret;exact⟨aH E.o.symm,Below.refl _ _⟩
  ·have hl:¬(s.data.toList.length<1\/63<s.data.toList.length):=by rw[xY];omega
   have ca:=λW=>Dy s W hs;by_cases ho:s.data.toList.all okB=true
   ·have E:=Fh (zE hl ho);rw[ho]at ca;have Ca:=Fh ca;clear ca ho hl;go_in;go_wp2_with fail;refine(Ca.o _).mono ?_;rintro e w1⟨rfl,hb⟩;go_wp2;go_ret;exact⟨aH E.o.symm,hb⟩
   ·have O1:s.data.toList.all okB=false:=by simpa using ho
    have E:=Fh (zF hl O1);rw[O1]at ca;have Ca:=Fh ca;clear ca ho O1 hl;go_in;go_wp2_with fail;refine(Ca.o _).mono ?_;rintro e w1⟨rfl,hb⟩;go_wp2;go_ret;exact⟨aH E.o.symm,hb⟩
open Go.Fz
def fN(l:List (List UInt8)):List Value:=l.map λs=> .string ⟨s.toArray⟩
theorem lY{w:World}{A:Option Addr}{l:List (List UInt8)}(h:aM w A (fN l)){k:Nat}(hk:k<l.length):∃b off,A=some ⟨b,off,none⟩/\w.cell? ⟨b,off+k,none⟩=some (.string ⟨l[k].toArray⟩):=
 h k _ (by simp[fN,hk])
theorem zG(l:List (List UInt8))(s:List UInt8):fN (l++ [s])=fN l++ [.string ⟨s.toArray⟩]:=by simp[fN]
theorem wP{l:List (List UInt8)}{k:Nat}(hk:k<l.length):FQ (l.take (k+1))=FQ (l.take k)+(l[k].length+1):=by
 rw[List.take_succ_eq_append_getElem hk,Mt]
theorem J7:∀(l:List (List UInt8)) (k:Nat),FQ (l.take k)<=FQ l
 | [],k=>by simp
 |s::r,0=>by simp[FQ];omega
 |s::r,k+1=>by
  have:=J7 r k;simp only [List.take_succ_cons,FQ];omega
theorem eH(s:List UInt8):(ByteArray.mk s.toArray).size=s.length:=by
 show s.toArray.size=s.length;simp
theorem BE(l:List (List UInt8))(A:Option Addr)(c:Nat)(w:World)(hr:aM w A (fN l))(hl:FQ l<1099511627776):
  Calls prog 152 #[.slice A l.length c] w λe w'=>e= .returned (.int .i64 (FQ l:Nat))/\w'=w:=by
 have HR:=Fh hr;have hlen:=Ir l;clear hr;go_in;go_wp2_with fail
 go_loop [3,8] (λn i=>∃k n':Nat,k<=l.length/\i= .int .i64 k/\n= .int .i64 n'/\Hid (n'=FQ (l.take k))/\n'<1099511627776) (λ_ i=>l.length-(intOf i).toNat)
 case atStart=>exact⟨0,1,Nat.zero_le _,rfl,rfl,Fh (by simp[FQ]),by omega⟩
 case round=>
  obtain⟨k,n',hk,rfl,rfl,HN,hn⟩:=hrel;by_cases FR:k<l.length
  ·obtain⟨b,off,rfl,hc⟩:=lY HR.o FR;have F8:=eH l[k];have Wm:=wP FR;have hle:=J7 l (k+1);have Tm:=HN.o;have hlk:l[k].length<1099511627776:=by omega
   have LU:n'+(l[k].length+1)<1099511627776:=by omega
   have QQ:Hid (n'+(l[k].length+1)=FQ (l.take (k+1))):=Fh (by omega);clear Wm hle Tm;obtain⟨sk,Ng⟩:=Fp (ByteArray.mk l[k].toArray);obtain⟨m,hm⟩:=Fp (l[k].length);rw[<-Ng]at hc F8;rw[<-hm]at F8 hlk LU QQ;have hszi:(sk.size:Int)=m:=by omega
   clear Ng hm F8;go_wp2;go_round
   case rel=>exact⟨k+1,n'+(m+1),by omega,by go_num,by congr 1,QQ,by omega⟩
   case measure=>simp[intOf];omega
  ·have Jc:k=l.length:=by omega
   have QQ:Hid (n'=FQ l):=Fh (by rw[HN.o,Jc,List.take_length]);go_wp2;go_ret;exact⟨aH (by rw[QQ.o]),rfl⟩
end Go.Proofs.YtifkphcaelafjaaGreatDoor
namespace Go.Colm
open Go.RowKit Go.ChangeShapes Go.WideShapes
def ya(l:List ByteArray):List Value:=l.map .string
theorem aM.str{w:World}{A:Option Addr}{l:List ByteArray}(h:aM w A (ya l)){k:Nat}(hk:k<l.length):
  ∃b off,A=some ⟨b,off,none⟩/\w.cell? ⟨b,off+k,none⟩=some (.string l[k]):=
 h k _ (by simp[ya,hk])
theorem lZ{w:World}{x:Addr}{vs:List Value}(h:∀i v,vs[i]? =some v->w.cell? (x.add i)=some v):aM w (some x) vs:=λi v hv=>by
 have hi:i<vs.length:=(List.getElem?_eq_some_iff.1 hv).1;have h0:=h 0 vs[0] (Fl (by omega));obtain⟨b,off,spot⟩:=x;have hs:spot=none:=by simpa[Addr.add]using World.cell?_spot h0
 subst hs;refine⟨b,off,rfl,?_⟩;have hc:=h i v hv;by_cases Px:i=0
 ·subst Px;simpa[Addr.add]using hc
 ·simpa[Addr.add,Px]using hc
section
variable{H:Type}{enc:TypeId×Value->H}{P:Program}{w:World}{base:Nat}{spare:Nat->Bool}{held:Bool}
theorem wQ{t e:TypeId}(ht:P.underlying t=some (.slice e))(he:P.underlying e=some (.int .u8))(hc:P.cellsOf e=1){a:Option Addr}{len cap fuel:Nat}{x:DataW H×List MemPlace}
  (h:DataW.trod enc P w base spare held fuel t [.slice a len cap]=some x):∃l:List UInt8,l.length=len/\len<=cap/\cap<=maxLen/\aM w a (ay l):=by
 rcases open_ints ht he hc h with⟨hcs,_⟩|⟨x,l,c,zs,hcs,_,hl,hm,hz,_,hcell,hwz⟩
 ·simp at hcs;obtain⟨rfl,rfl,rfl⟩:=hcs;exact⟨[],rfl,by omega,by unfold maxLen;omega,aM.nil _ _⟩
 ·simp at hcs;obtain⟨rfl,rfl,rfl⟩:=hcs;have hlen:len<=zs.length:=by
   rw[hz];split<;>omega
  refine⟨(zs.take len).map λn=>UInt8.ofNat n.toNat,by simp;omega,hl,hm,?_⟩;apply lZ;intro i v hv;have hi:i<len:=by
   have:=(List.getElem?_eq_some_iff.1 hv).1;simp[ay]at this;omega
  rw[hcell i (by omega),<-hv];have hw:(Lit.int .u8 zs[i]).wf=true:=hwz _ (List.getElem_mem _);have hb:=bounds_u8 hw;simp only [ay,List.getElem?_map,List.getElem?_take_of_lt hi,Fl (show i<zs.length by omega),Option.map_some,List.getD_eq_getElem?_getD,Option.getD_some];rw[il (by omega) (by omega)]
end
end Go.Colm
namespace Go.Proofs.YtifkphcaelafjaaGreatDoor
open Tryz
open Go.RowKit Go.FP Go.Colm
theorem zH(h b:Int)(h0:0<=h)(h1:h<4294967296)(b0:0<=b)(b1:b<256):
  bits .xor .u32 h b*16777619%4294967296=(gR h.toNat b.toNat:Nat):=by
 rw[u32_xor h b h0 h1 b0 (by omega)];unfold gR;omega
theorem uw(h b:Int)(w:World)(h0:0<=h)(h1:h<4294967296)(b0:0<=b)(b1:b<256):
  Calls prog 349 #[.int .u32 h,.int .u8 b] w λe w'=>e= .returned (.int .u32 (gR h.toNat b.toNat:Nat))/\w=w':=by
 go_in;go_wp2;go_ret;exact⟨aH (zH h b h0 h1 b0 b1),rfl⟩
def ux(h s:Int):Int:=if s<1 then 0 else h%s
theorem uy(h s:Int)(w:World)(h0:0<=h)(h1:h<4294967296)(s0: -9223372036854775808<=s)(s1:s<=9223372036854775807):
  Calls prog 328 #[.int .u32 h,.int .i64 s] w λe w'=>e= .returned (.int .i64 (ux h s))/\w=w':=by
 by_cases hs:s<1
 ·go_in;go_wp2;go_ret;exact⟨aH (by simp[ux,hs]),rfl⟩
 ·have hm:0<=h%s:=Int.emod_nonneg _ (by omega);have hm2:h%s<s:=Int.emod_lt_of_pos _ (by omega);go_in;go_wp2;go_ret;exact⟨aH (by rw[ux,if_neg (by omega)]),rfl⟩
theorem mS(h:Nat)(l:List UInt8)(k:Nat)(hk:k<l.length):bJ h (l.take (k+1))=gR (bJ h (l.take k)) l[k].toNat:=by
 rw[List.take_succ_eq_append_getElem hk,nL]
theorem sY(h:Int)(A:Option Addr)(l:List UInt8)(c:Nat)(w:World)(h0:0<=h)(h1:h<4294967296)(hl:l.length<=140737488355328)(hr:aM w A (ay l)):
  Calls prog 348 #[.int .u32 h,.slice A l.length c] w λe w'=>e= .returned (.int .u32 (bJ h.toNat l:Nat))/\w=w':=by
 have Hr:=Fh hr;clear hr;obtain⟨h,rfl⟩:=Int.eq_ofNat_of_zero_le h0;have hh:h<4294967296:=by omega
 simp only [Int.toNat_natCast];go_in;go_wp2
 go_loop [0,8] (λh' i=>∃k:Nat,k<=l.length/\i= .int .i64 k/\h'= .int .u32 (bJ h (l.take k):Nat)) (λ_ i=>l.length-(intOf i).toNat)
 case atStart=>exact⟨0,Nat.zero_le _,rfl,rfl⟩
 case round=>
  obtain⟨k,hk,rfl,rfl⟩:=hrel;have FR:=mD hh (l.take k);by_cases Jc:k<l.length
  ·obtain⟨b,off,rfl,hc⟩:=Hr.o.byte Jc;have hs:=Fh (mS h l k Jc);have hb:=kS l[k];go_wp2_with (go_at_call 349;refine(uw _ _ _ (by omega) (by omega) hb.1 hb.2).mono ?_;rintro e w' ⟨rfl,rfl⟩);go_round
   case rel=>exact⟨k+1,by omega,by go_num,by rw[hs.out]⟩
   case measure=>simp[intOf];omega
  ·go_wp2;go_ret;exact⟨aH (by rw[List.take_of_length_le (by omega)]),rfl⟩
theorem sZ(h:Int)(s:ByteArray)(w:World)(h0:0<=h)(h1:h<4294967296)(hl:s.size<=140737488355328):
  Calls prog 318 #[.int .u32 h,.string s] w λe w'=>e= .returned (.int .u32 (bJ h.toNat s.data.toList:Nat))/\w=w':=by
 obtain⟨h,rfl⟩:=Int.eq_ofNat_of_zero_le h0;have hh:h<4294967296:=by omega
 simp only [Int.toNat_natCast];go_in;go_wp2
 go_loop [0,8] (λh' i=>∃k:Nat,k<=s.size/\i= .int .i64 k/\h'= .int .u32 (bJ h (s.data.toList.take k):Nat)) (λ_ i=>s.size-(intOf i).toNat)
 case atStart=>exact⟨0,Nat.zero_le _,rfl,rfl⟩
 case round=>
  obtain⟨k,hk,rfl,rfl⟩:=hrel;have FR:=mD hh (s.data.toList.take k);by_cases Jc:k<s.size
  ·have hs:bJ h (s.data.toList.take (k+1))=gR (bJ h (s.data.toList.take k)) s[k].toNat:=by rw[qA s k Jc,nL]
   have hs:=Fh hs;have hb:=kS s[k];go_wp2_with (go_at_call 349;refine(uw _ _ _ (by omega) (by omega) hb.1 hb.2).mono ?_;rintro e w' ⟨rfl,rfl⟩);go_round
   case rel=>exact⟨k+1,by omega,by go_num,by rw[hs.out]⟩
   case measure=>simp[intOf];omega
  ·go_wp2;go_ret;exact⟨aH (by rw[List.take_of_length_le (by simp;omega)]),rfl⟩
theorem ry(h:Int)(A:Option Addr)(l:List UInt8)(c:Nat)(w:World)(h0:0<=h)(h1:h<4294967296)(hl:l.length<=140737488355328)(hr:aM w A (ay l)):
  Calls prog 317 #[.int .u32 h,.slice A l.length c] w λe w'=>e= .returned (.int .u32 (bJ h.toNat l:Nat))/\w=w':=by
 have Hr:=Fh hr;clear hr;go_in;go_wp2_with (go_at_call 348;refine(sY _ _ _ _ _ h0 h1 hl Hr.o).mono ?_;rintro e w' ⟨rfl,rfl⟩);go_ret;exact⟨rfl,rfl⟩
open Go.Fy
theorem Dz(h t:Int)(w:World)(h0:0<=h)(h1:h<4294967296)(t0:0<=t)(t1:t<65536):
  Calls prog 257 #[.int .u32 h,.int .u16 t] w λe w'=>e= .returned (.int .u32 (sG h.toNat t.toNat:Nat))/\Below w.heap.size w w':=by
 have x0:t/256<256:=by omega
 have E:=Fh (show bJ h.toNat [UInt8.ofNat (t%256).toNat,UInt8.ofNat (t/256).toNat]=sG h.toNat t.toNat by
  have e1:(UInt8.ofNat (t%256).toNat).toNat=t.toNat%256:=by simp only [UInt8.toNat_ofNat'];omega
  have e2:(UInt8.ofNat (t/256).toNat).toNat=t.toNat/256:=by simp only [UInt8.toNat_ofNat'];omega
  rw[gh,gh,kR,e1,e2];rfl)
 have c:=ry h (some ⟨w.heap.size,0,none⟩) [UInt8.ofNat (t%256).toNat,UInt8.ofNat (t/256).toNat] 2 _ h0 h1 (by simp) (aM.new2 w 5 (t%256) (t/256) (by omega) (by omega) (by omega) x0);rw[E.o]at c;simp only [List.length_cons,List.length_nil,Nat.zero_add,Nat.reduceAdd]at c;have C:=c;clear c;go_in;go_wp2_with fail;refine C.mono ?_;rintro e w'⟨rfl,rfl⟩;go_wp2;go_ret;exact⟨rfl,(Below.refl _ _).alloc (Fm _) _⟩
theorem mT(h:Int)(s:ByteArray)(w:World)(h0:0<=h)(h1:h<4294967296)(hs:s.size<=70368744177664):
  Calls prog 247 #[.int .u32 h,.string s] w λe w'=>e= .returned (.int .u32 (cE h.toNat s.data.toList:Nat))/\Below w.heap.size w w':=by
 have FR:=mD (h:=h.toNat) (by omega) (FI s.data.toList);have F8:(ByteArray.mk (FI s.data.toList).toArray).size<=140737488355328:=by
  show(FI s.data.toList).toArray.size<=_;simp[gi];omega
 have E:=Fh (show bJ (bJ h.toNat (FI s.data.toList)) [UInt8.ofNat (46:Int).toNat]=cE h.toNat s.data.toList by
  rw[gh,kR];rfl)
 go_in;go_wp2_with fail;refine(j8 _ _ hs).mono ?_;rintro e w1⟨rfl,FN⟩;go_wp2_with fail;refine(sZ _ _ _ h0 h1 F8).mono ?_;rintro e w2⟨rfl,rfl⟩;have c:=ry (bJ h.toNat (FI s.data.toList):Nat) (some ⟨w1.heap.size,0,none⟩) [UInt8.ofNat (46:Int).toNat] 1 _ (by omega) (by omega) (by simp) (aM.new1 w1 5 46 (by omega) (by omega));rw[Int.toNat_natCast,E.o]at c;simp only [List.length_cons,List.length_nil,Nat.zero_add]at c;go_wp2_with fail;refine c.mono ?_;rintro e w'⟨rfl,rfl⟩;clear c;go_wp2;go_ret;exact⟨rfl,FN.alloc FN.size _⟩
def G2:List ByteArray->Nat
 | []=>2166136261
 |s::l=>cE (G2 l) s.data.toList
theorem ID:G2 []=2166136261:=by rw[G2]
theorem nP(s:ByteArray)(l:List ByteArray):G2 (s::l)=cE (G2 l) s.data.toList:=by rw[G2]
attribute [irreducible] G2
theorem zI(l:List ByteArray):G2 l<4294967296:=by
 rcases l with _|⟨s,l⟩
 ·rw[ID];omega
 ·rw[nP];exact jT _ _
theorem Q3:((G2 []:Nat):Int)=2166136261:=by
 rw[ID];omega
theorem uz(l:List ByteArray)(k:Nat)(h:k<l.length):G2 (l.drop k)=cE (G2 (l.drop (k+1))) l[k].data.toList:=by
 rw[List.drop_eq_getElem_cons h,nP]
theorem zJ(A:Option Addr)(l:List ByteArray)(c:Nat)(w:World)(hl:l.length<=140737488355328)(hs:∀s∈l,s.size<=70368744177664)(hr:aM w A (ya l)):
  Calls prog 319 #[.slice A l.length c] w λe w'=>e= .returned (.int .u32 (G2 l:Nat))/\Below w.heap.size w w':=by
 have Hr:=Fh hr;have Hs:=Fh hs;clear hr hs;go_in;go_wp2_with fail
 go_loopw [3,7] (λh i wr=>∃k:Nat,k<=l.length/\i= .int .i64 k/\h= .int .u32 (G2 (l.drop (l.length-k)):Nat)/\Below w.heap.size w wr) (λ_ i _=>l.length-(intOf i).toNat)
 case atStart=>exact⟨0,Nat.zero_le _,rfl,by rw[Nat.sub_zero,List.drop_length,Q3],Below.refl _ _⟩
 case round=>
  obtain⟨k,hk,rfl,rfl,hb⟩:=hrel;have FR:=zI (l.drop (l.length-k));by_cases Jc:k<l.length
  ·obtain⟨b,off,rfl,hc⟩:=(Hr.o.below hb).str (k:=l.length-1-k) (by omega);have hm:=Hs.o l[l.length-1-k] (List.getElem_mem _);have he:G2 (l.drop (l.length-(k+1)))=cE (G2 (l.drop (l.length-k))) l[l.length-1-k].data.toList:=by
    have h:=uz l (l.length-1-k) (by omega);rw[show l.length-1-k+1=l.length-k by omega]at h;rw[show l.length-(k+1)=l.length-1-k by omega];exact h
   have He:=Fh he;clear he;go_wp2_with fail;refine(mT _ _ _ (by omega) (by omega) hm).mono ?_;rintro e w2⟨rfl,FF⟩;go_wp2;go_roundw
   case rel=>exact⟨k+1,by omega,by go_num,by rw[He.o],ah hb FF⟩
   case measure=>simp[intOf];omega
  ·go_wp2;go_ret;exact⟨aH (by rw[show l.length-k=0 by omega,List.drop_zero]),hb⟩
open Go.FC Go.Maps
section
variable{O:av}{μ:Mm}{w:World}
abbrev du(mb n:Nat):Value:= .agg #[.pointer (some ⟨mb,0,none⟩),.int .i64 (n:Int)]
theorem Sv(mb n:Nat)(w:World):∃w0,w0=w.alloc (.cells #[.pointer (some ⟨mb,0,none⟩),.int .i64 (n:Int)] 136)/\Below w.heap.size w w0/\w0.cell? ⟨w.heap.size,0,none⟩=some (.pointer (some ⟨mb,0,none⟩))/\w0.cell? ⟨w.heap.size,1,none⟩=some (.int .i64 (n:Int)):=
 ⟨_,rfl,(Below.refl _ w).alloc (Fm _) _,(Whole.new w _ _).cell 0,(Whole.new w _ _).cell 1⟩
theorem wR{tb:Nat}{v0 v1:Value}{W W2:World}(h0:ao O μ w)(hb:w.heap.size<=tb)(h:MG O w μ W/\W.cell? ⟨tb,0,none⟩=some v0/\W.cell? ⟨tb,1,none⟩=some v1)(k:MG O W μ W2):MG O w μ W2/\W2.cell? ⟨tb,0,none⟩=some v0/\W2.cell? ⟨tb,1,none⟩=some v1:=
 ⟨h.1.trans k,k.kept.cell h.2.1 (h0.Fu hb),k.kept.cell h.2.2 (h0.Fu hb)⟩
theorem iH(mb n i:Nat)(w:World)(hn:0<n)(hi:i<1099511627776)(ML:n<1099511627776):Calls prog 280 #[du mb n,.int .i64 (i:Int)] w λe w'=>e= .returned (.int .i64 ((i%n:Nat):Int))/\Below w.heap.size w w':=by
 obtain⟨w0,Fx,FM,x0,x1⟩:=Sv mb n w;have GW:=Fh FM;have hz:¬((n:Int)=0):=by omega
 obtain⟨r,hr⟩:=Fp (i%n);have PC:r<n:=by rw[hr];exact Nat.mod_lt _ hn
 have hm:Int.tmod (i:Int) (n:Int)=(r:Int):=by
  rw[Int.tmod_eq_emod_of_nonneg (by omega),hr];rfl
 rw[<-hr];clear FM hr;go_in;go_upto_region 1 with fail;rw[<-Fx];clear Fx;go_wp2;go_ret;exact⟨rfl,GW.o⟩
theorem l5{i v:Nat}(h:dE i μ=some v):v<4294967296:=oO h
theorem fO(h:ao O μ w)(i v:Nat)(hi:i<1099511627776)(hv:dE i μ=some v):Calls prog 186 #[du O.mb μ.slots,.int .i64 (i:Int)] w λe w'=>e= .returned (.int .i64 (v:Int))/\MG O w μ w':=by
 obtain⟨w0,Fx,FM,x0,x1⟩:=Sv O.mb μ.slots w;have G5:=h.cf;have J0:0<μ.slots:=by omega
 have hm:i%μ.slots<μ.slots:=Nat.mod_lt _ J0;have RL:=l5 hv;unfold dE at hv;have HC:Hid (∀W,MG O w μ W->Calls prog 77 #[.pointer (some ⟨O.mb,0,none⟩)] W λe w'=>e= .returned (.agg #[.int .i64 (μ.Fq:Int),.int .i64 (μ.slots:Int)])/\MG O W μ w'):=Fh (λW hg=>(aD hg.has).mono λe w' h=>⟨h.1,(MG.refl hg.has).below h.2⟩);have Qq:Hid (∀W,MG O w μ W->Calls prog 280 #[.agg #[.pointer (some ⟨O.mb,0,none⟩),.int .i64 (μ.slots:Int)],.int .i64 (i:Int)] W λe w'=>e= .returned (.int .i64 ((i%μ.slots:Nat):Int))/\MG O W μ w'):=Fh (λW hg=>(iH O.mb μ.slots i W J0 hi (by omega)).mono λe w' h=>⟨h.1,(MG.refl hg.has).below h.2⟩);have HSA:Hid (∀W,MG O w μ W->Calls prog 76 #[.agg #[.int .i64 (μ.Fq:Int),.int .i64 (μ.slots:Int)],.int .i64 ((i%μ.slots:Nat):Int)] W λe w'=>e= .returned (.int .i64 ((az μ.Fq+i%μ.slots*4:Nat):Int))/\MG O W μ w'):=Fh (λW hg=>(kU μ.Fq μ.slots (i%μ.slots) W hg.has.env.Hk h.ok hm).mono λe w' h=>⟨h.1,(MG.refl hg.has).below h.2⟩);have O4:Hid (∀W,MG O w μ W->Calls prog 163 #[.pointer (some ⟨O.mb,0,none⟩),.int .i64 ((az μ.Fq+i%μ.slots*4:Nat):Int),.int .i64 4,.int .i64 4] W λe w'=>e= .returned (.int .u64 (v:Int))/\MG O W μ w'):=Fh (λW hg=>dA hg.has _ 4 4 v hv);have HH:=Fh h;have Gu:MG O w μ w0.drew/\w0.drew.cell? ⟨w.heap.size,0,none⟩=some (.pointer (some ⟨O.mb,0,none⟩))/\w0.drew.cell? ⟨w.heap.size,1,none⟩=some (.int .i64 (μ.slots:Int)):=⟨((MG.refl h).below FM).drew,x0,x1⟩;have RI:IntKind.i64.wrap (v:Int)=(v:Int):=IntWalk.i64_in _ (by omega);obtain⟨a,ha⟩:=Fp (az μ.Fq+i%μ.slots*4);rw[<-ha]at HSA O4;obtain⟨r,hr⟩:=Fp (i%μ.slots);rw[<-hr]at HSA Qq;obtain⟨tb,O6⟩:=Fp w.heap.size;rw[<-O6]at Gu;have HTB:Hid (w.heap.size<=tb):=Fh (by omega);clear h hv ha hr FM hi x0 x1 G5 J0 hm;go_in;go_upto_region 1 with fail;rw[<-Fx,<-O6];clear Fx O6
 go_region_held3 (λw'=>MG O w μ w'/\w'.cell? ⟨tb,0,none⟩=some (.pointer (some ⟨O.mb,0,none⟩))/\w'.cell? ⟨tb,1,none⟩=some (.int .i64 (μ.slots:Int)))
  (first|exact Gu|assumption|exact wR HH.o HTB.o (by assumption) (by assumption))
  (first
   |((go_at_call 77;with_reducible refine(HC.o _ (And.left (by assumption))).mono ?_);rintro e w2 ⟨rfl,Gg⟩)
   |((go_at_call 280;with_reducible refine(Qq.o _ (And.left (by assumption))).mono ?_);rintro e w2 ⟨rfl,Gg⟩)
   |((go_at_call 76;with_reducible refine(HSA.o _ (And.left (by assumption))).mono ?_);rintro e w2 ⟨rfl,Gg⟩)
   |((go_at_call 163;with_reducible refine(O4.o _ (And.left (by assumption))).mono ?_);rintro e w2 ⟨rfl,Gg⟩))
 have HM:Hid (MG O w μ w2):=Fh (And.left (by assumption));clear Gu;go_wp2;go_ret;exact⟨rfl,HM.o⟩
theorem jx{a f v W:Nat}(h:im a f μ=some v)(hf:f<12)(hW:∀t,t<3->(FO t f).2<=W):v<256^W:=by
 obtain⟨⟨t,k⟩,hl,hv⟩:=Fi h;have h1:=Bw hv;refine Nat.lt_of_lt_of_le h1 (Nat.pow_le_pow_right (by decide) ?_);rcases Nat.lt_or_ge 2 t with ht|ht
 ·rw[jZ ht];exact Nat.zero_le _
 ·exact hW t (by omega)
theorem oX{a v:Nat}(h:kK a μ=some v):v<4294967296:=jx (W:=4) h (by omega) (by decide)
theorem jy(h:ao O μ w)(a v:Nat)(ha:a<4294967296)(hv:kK a μ=some v):Calls prog 278 #[du O.mb μ.slots,.int .i64 (a:Int)] w λe w'=>e= .returned (.int .u32 (v:Int))/\MG O w μ w':=by
 obtain⟨w0,Fx,FM,x0,x1⟩:=Sv O.mb μ.slots w;have FE:Hid (MG O w μ w0):=Fh ((MG.refl h).below FM);have HL:=Fh (eF FE.o.has a 10 v ha (by omega) hv);have RL:v<4294967296:=oX hv;clear h FM hv;go_in;go_upto_region 1 with fail;rw[<-Fx];clear Fx;go_wp2_with fail;refine HL.o.mono ?_;rintro e w1⟨rfl,hg⟩;have FA:=Fh (FE.o.trans hg);clear hg;go_wp2;go_ret;exact⟨rfl,FA.o⟩
theorem rz(h n:Nat)(hn:0<n):ux (h:Int) (n:Int)=((h%n:Nat):Int):=by
 rw[ux,if_neg (by omega)];rfl
theorem uA(h:ao O μ w)(a v:Nat)(ha:a<4294967296)(hv:kK a μ=some v):Calls prog 267 #[du O.mb μ.slots,.int .i64 (a:Int)] w λe w'=>e= .returned (.int .i64 ((v%μ.slots:Nat):Int))/\MG O w μ w':=by
 obtain⟨w0,Fx,FM,x0,x1⟩:=Sv O.mb μ.slots w;have G5:=h.cf;have FE:Hid (MG O w μ w0):=Fh ((MG.refl h).below FM);have HL:=Fh (jy FE.o.has a v ha hv);have RL:=oX hv;have HM:=Fh (λW=>uy (v:Int) (μ.slots:Int) W (by omega) (by omega) (by omega) (by omega));rw[rz v μ.slots (by omega)]at HM;obtain⟨r,hr⟩:=Fp (v%μ.slots);rw[<-hr]at HM⊢;have KR:Hid (∀k,w.heap.size<=k->¬au O k):=Fh (λk hk=>h.Fu hk);have HV:=Fh hv;clear h FM hv hr G5 HL;obtain⟨tb,O6⟩:=Fp w.heap.size;have Gu:MG O w0.drew μ w0.drew/\w0.drew.cell? ⟨tb,0,none⟩=some (.pointer (some ⟨O.mb,0,none⟩))/\w0.drew.cell? ⟨tb,1,none⟩=some (.int .i64 (μ.slots:Int)):=⟨MG.refl FE.o.has.drew,by rw[O6];exact x0,by rw[O6];exact x1⟩;have HL:Hid (∀W,MG O w0.drew μ W->Calls prog 278 #[du O.mb μ.slots,.int .i64 (a:Int)] W λe w'=>e= .returned (.int .u32 (v:Int))/\MG O W μ w'):=Fh (λW hg=>jy hg.has a v ha HV.o);have T7:Hid (∀ {W W2:World},MG O w0.drew μ W/\W.cell? ⟨tb,0,none⟩=some (.pointer (some ⟨O.mb,0,none⟩))/\W.cell? ⟨tb,1,none⟩=some (.int .i64 (μ.slots:Int))->MG O W μ W2->MG O w0.drew μ W2/\W2.cell? ⟨tb,0,none⟩=some (.pointer (some ⟨O.mb,0,none⟩))/\W2.cell? ⟨tb,1,none⟩=some (.int .i64 (μ.slots:Int))):=Fh (λh k=>⟨h.1.trans k,k.kept.cell h.2.1 (KR.o _ (by show _<=tb;omega)),k.kept.cell h.2.2 (KR.o _ (by show _<=tb;omega))⟩);go_in;go_upto_region 1 with fail;rw[<-Fx,<-O6];clear Fx O6 x0 x1
 go_region_held3 (λw'=>MG O w0.drew μ w'/\w'.cell? ⟨tb,0,none⟩=some (.pointer (some ⟨O.mb,0,none⟩))/\w'.cell? ⟨tb,1,none⟩=some (.int .i64 (μ.slots:Int)))
  (first|exact Gu|assumption|exact T7.o (by assumption) (by assumption))
  (first
   |((go_at_call 278;with_reducible refine(HL.o _ (And.left (by assumption))).mono ?_);rintro e w2 ⟨rfl,Gg⟩)
   |((go_at_call 328;with_reducible refine(HM.o _).mono ?_);rintro e w3 ⟨rfl,rfl⟩))
 have HX:Hid (MG O w μ w2):=Fh (FE.o.drew.trans (And.left (by assumption)));clear Gu;go_wp2;go_ret;exact⟨rfl,HX.o⟩
theorem yb(h:ao O μ w)(i d:Nat)(hi:i<1099511627776)(hv:wy i μ=some d):Calls prog 187 #[du O.mb μ.slots,.int .i64 (i:Int)] w λe w'=>e= .returned (.int .i64 (d:Int))/\MG O w μ w':=by
 obtain⟨v,h1,hv⟩:=Fi hv;obtain⟨hh,h2,hv⟩:=Fi hv;have hd:=(Fk hv).symm;have G5:=h.cf;have J0:0<μ.slots:=by omega
 obtain⟨w0,Fx,FM,x0,x1⟩:=Sv O.mb μ.slots w;have FE:Hid (MG O w μ w0):=Fh ((MG.refl h).below FM);have Qq:=Fh (λW=>iH O.mb μ.slots i W J0 hi (by omega));have hvs:=l5 h1;have h1':dE (i%μ.slots) μ=some v:=by
  unfold dE at h1⊢;rw[Nat.mod_mod];exact h1
 have Gn:=Fh (λW (hg:MG O w μ W)=>fO hg.has (i%μ.slots) v (by have:=Nat.mod_lt i J0;omega) h1');have HHO:=Fh (λW (hg:MG O w μ W)=>uA hg.has v hh hvs h2);have HS:Hid (∀W,MG O w0 μ W->W.cell? ⟨w.heap.size,0,none⟩=some (.pointer (some ⟨O.mb,0,none⟩))/\W.cell? ⟨w.heap.size,1,none⟩=some (.int .i64 (μ.slots:Int))):=Fh (λW hg=>⟨hg.kept.cell x0 (h.Fu (Fm _)),hg.kept.cell x1 (h.Fu (Fm _))⟩);obtain⟨r,hr⟩:=Fp (i%μ.slots);obtain⟨q,hq⟩:=Fp (hh%μ.slots);have PC:r<μ.slots:=by rw[hr];exact Nat.mod_lt _ J0
 have Y3:q<μ.slots:=by rw[hq];exact Nat.mod_lt _ J0
 rw[<-hr,<-hq]at hd;rw[<-hr]at Qq Gn;rw[<-hq]at HHO;have HGR:=Fh (MG.refl FE.o.has);have VK:μ.slots<=8192:=G5.2.2.1;have HH:=Fh h;clear h FM hv hr hq h1 h2 h1' G5 J0;go_in;go_upto_region 1 with fail;rw[<-Fx];clear Fx;go_wp2_with fail;refine(Qq.o _).mono ?_;rintro e w1⟨rfl,hb⟩;have HW1:=Fh (HGR.o.below hb);have FA:=Fh (FE.o.below hb);obtain⟨x0,x1⟩:=HS.o _ HW1.o;clear hb;obtain⟨tb,O6⟩:=Fp w.heap.size;have Gu:MG O w μ w1.drew/\w1.drew.cell? ⟨tb,0,none⟩=some (.pointer (some ⟨O.mb,0,none⟩))/\w1.drew.cell? ⟨tb,1,none⟩=some (.int .i64 (μ.slots:Int)):=⟨FA.o.drew,by rw[O6];exact x0,by rw[O6];exact x1⟩;have HTB:Hid (w.heap.size<=tb):=Fh (by omega);have HGE':Hid (∀W,MG O w μ W->Calls prog 186 #[du O.mb μ.slots,.int .i64 (r:Int)] W λe w'=>e= .returned (.int .i64 (v:Int))/\MG O W μ w'):=Fh (λW hg=>Gn.o W hg);have HHO':Hid (∀W,MG O w μ W->Calls prog 267 #[du O.mb μ.slots,.int .i64 (v:Int)] W λe w'=>e= .returned (.int .i64 (q:Int))/\MG O W μ w'):=Fh (λW hg=>HHO.o W hg);clear Gn HHO x0 x1;go_upto_region 2 with fail;rw[<-O6];clear O6
 go_region_held3 (λw'=>MG O w μ w'/\w'.cell? ⟨tb,0,none⟩=some (.pointer (some ⟨O.mb,0,none⟩))/\w'.cell? ⟨tb,1,none⟩=some (.int .i64 (μ.slots:Int)))
  (first|exact Gu|assumption|exact wR HH.o HTB.o (by assumption) (by assumption))
  (first
   |((go_at_call 186;with_reducible refine(HGE'.o _ (And.left (by assumption))).mono ?_);rintro e w2 ⟨rfl,Gg⟩)
   |((go_at_call 267;with_reducible refine(HHO'.o _ (And.left (by assumption))).mono ?_);rintro e w3 ⟨rfl,FZ⟩))
 have hh3:MG O w μ w3/\w3.cell? ⟨tb,0,none⟩=some (.pointer (some ⟨O.mb,0,none⟩))/\w3.cell? ⟨tb,1,none⟩=some (.int .i64 (μ.slots:Int)):=by assumption
 have FT:=Fh hh3.1;have x1:=hh3.2.2;clear hh3 Gu;by_cases FR:r<q
 ·rw[if_pos FR]at hd;go_wp2;go_ret;exact⟨aH (by omega),FT.o⟩
 ·rw[if_neg FR]at hd;go_wp2;go_ret;exact⟨aH (by omega),FT.o⟩
theorem rA(h:ao O μ w)(i step:Nat)(b:Bool)(hi:i<1099511627776)(hv:mG i step μ=some b):Calls prog 269 #[du O.mb μ.slots,.int .i64 (i:Int),.int .i64 (step:Int)] w λe w'=>e= .returned (.bool b)/\MG O w μ w':=by
 obtain⟨v,h1,hv⟩:=Fi hv;obtain⟨w0,Fx,FM,x0,x1⟩:=Sv O.mb μ.slots w;have FE:Hid (MG O w μ w0):=Fh ((MG.refl h).below FM);have Gn:=Fh (λW (hg:MG O w μ W)=>fO hg.has i v hi h1);have HS:Hid (∀W,MG O w0 μ W->W.cell? ⟨w.heap.size,0,none⟩=some (.pointer (some ⟨O.mb,0,none⟩))/\W.cell? ⟨w.heap.size,1,none⟩=some (.int .i64 (μ.slots:Int))):=Fh (λW hg=>⟨hg.kept.cell x0 (h.Fu (Fm _)),hg.kept.cell x1 (h.Fu (Fm _))⟩);by_cases h0:v=0
 ·rw[if_pos h0]at hv;obtain rfl:=Fk hv;subst h0;clear h FM hv h1;go_in;go_upto_region 1 with fail;rw[<-Fx];clear Fx;go_wp2_with fail;refine(Gn.o _ FE.o).mono ?_;rintro e w1⟨rfl,hg⟩;have FA:=Fh (FE.o.trans hg);clear hg;go_wp2;go_ret;exact⟨rfl,FA.o⟩
 ·rw[if_neg h0]at hv;obtain⟨d,h2,hv⟩:=Fi hv;have hd:=(Fk hv).symm;have HF:=Fh (λW (hg:MG O w μ W)=>yb hg.has i d hi h2);have z0:((v:Int)==0)=false:=by rw[Fo];omega
  have HD:=Fh hd;clear h FM hv h1 h2 h0 hd;go_in;go_upto_region 1 with fail;rw[<-Fx];clear Fx;go_wp2_with fail;refine(Gn.o _ FE.o).mono ?_;rintro e w1⟨rfl,hg⟩;have FA:=Fh (FE.o.trans hg);obtain⟨x0,x1⟩:=HS.o _ hg;clear hg;go_wp2_with fail;refine(HF.o _ FA.o).mono ?_;rintro e w2⟨rfl,hg⟩;have FK:=Fh (FA.o.trans hg);clear hg;go_wp2;go_ret;exact⟨aq (by rw[HD.o,Bool.eq_iff_iff]),FK.o⟩
end
end Go.Proofs.YtifkphcaelafjaaGreatDoor
namespace Go.FC
def Sm(m m':Mm):Prop:=m'.Fq=m.Fq/\m'.slots=m.slots
theorem Sm.refl(m:Mm):Sm m m:=⟨rfl,rfl⟩
theorem Sm.trans{a b c:Mm}(h:Sm a b)(k:Sm b c):Sm a c:=⟨k.1.trans h.1,k.2.trans h.2⟩
theorem Sm.Y4{a b:Mm}(h:Sm a b)(s:Nat):ax b s=ax a s:=by unfold ax;rw[h.1,h.2]
theorem bT{α:Type}{m m':Mm}{o:Option α}{f:α->Option Mm}(h:o.bind f=some m')(hf:∀x,o=some x->f x=some m'->Sm m m'):Sm m m':=by
 obtain⟨x,h1,h2⟩:=Fi h;exact hf x h1 h2
variable{m m':Mm}
theorem yc{a w k v:Nat}(h:m.st a w k v=some m'):Sm m m':=by
 unfold Mm.st at h;split at h
 ·obtain rfl:=Fk h;exact⟨rfl,rfl⟩
 ·cases h
theorem wS{f v:Nat}(h:m.FG f v=some m'):Sm m m':=yc h
theorem ta{a n k:Nat}(h:m.zero a n k=some m'):Sm m m':=by
 unfold Mm.zero at h;split at h
 ·obtain rfl:=Fk h;exact⟨rfl,rfl⟩
 ·cases h
theorem fh{a n k:Nat}(h:m.mark a n k=some m'):Sm m m':=by
 unfold Mm.mark at h;split at h
 ·obtain rfl:=Fk h;exact⟨rfl,rfl⟩
 ·cases h
theorem ey{s o w v:Nat}(h:dQ s o w v m=some m'):Sm m m':=by
 unfold dQ at h;split at h
 ·exact yc h
 ·cases h
theorem rB{c p n:Nat}(h:fy c p n m=some m'):Sm m m':=by
 unfold fy at h;split at h
 ·exact ey h
 ·exact wS h
theorem oY{p:Prop} [Decidable p]{o:Option Mm}(h:(if p then o else some m)=some m')(hf:o=some m'->Sm m m'):Sm m m':=by
 split at h
 ·exact hf h
 ·obtain rfl:=Fk h;exact Sm.refl _
theorem BF{c s p n:Nat}(h:nK c s p n m=some m'):Sm m m':=
 bT h λ_ h1 h=>(ey h1).trans (bT h λ_ h2 h=>(ey h2).trans (bT h λ_ h3 h=>(oY h3 ey).trans (rB h)))
theorem td{c s:Nat}(h:oF c s m=some m'):Sm m m':=
 bT h λ_ _ h=>bT h λ_ _ h=>bT h λ_ _ h=>bT h λ_ _ h=>BF h
theorem l7{c s:Nat}(h:oG c s m=some m'):Sm m m':=by
 refine bT h λq _ h=> ?_;split at h
 ·cases h
 ·exact bT h λ_ _ h=>bT h λ_ h1 h=>(rB h1).trans (bT h λ_ h2 h=>(oY h2 ey).trans (bT h λ_ h3 h=>(ey h3).trans (ey h)))
theorem fP{s c l f:Nat}(h:gS s c l f m=some m'):Sm m m':=by
 unfold gS at h;split at h
 ·exact bT h λ_ h1 h=>(ey h1).trans (bT h λ_ h2 h=>(ey h2).trans (ey h))
 ·cases h
theorem uB{a f v:Nat}(h:bE a f v m=some m'):Sm m m':=by
 refine bT h λq _ h=> ?_;split at h
 ·cases h
 ·exact yc h
theorem uC{a k:Nat}{b:Bk}:∀ {n f:Nat} {m:Mm},eC a k b f n m=some m'->Sm m m'
 |0,f,m,h=>by
  obtain rfl:=Fk h;exact Sm.refl _
 |n+1,f,m,h=>by
  rw[eC]at h;refine bT h λm1 h1 h=>Sm.trans ?_ (uC h);split at h1
  ·obtain rfl:=Fk h1;exact Sm.refl _
  ·exact yc h1
theorem BH{a:Nat}{b:Bk}(h:gk a b m=some m'):Sm m m':=by
 unfold gk at h;split at h
 ·exact uC h
 ·cases h
theorem oZ{a f:Nat}(h:qS a f m=some m'):Sm m m':=BH h
theorem lc{a sz:Nat}:∀ {k f:Nat} {m:Mm} {q:Nat×Mm},dD a sz k f m=some q->Sm m q.2
 |0,f,m,q,h=>by
  obtain rfl:=Fk h;exact Sm.refl _
 |k+1,f,m,q,h=>by
  rw[dD]at h;obtain⟨m1,h1,h2⟩:=Fi h;exact(oZ h1).trans (lc h2)
theorem rC{s c:Nat}{x:Sl}{q:Sl×Mm}(h:ir s c x m=some q):Sm m q.2:=by
 unfold ir at h;obtain⟨m1,h1,h⟩:=Fi h;obtain⟨m2,h2,h⟩:=Fi h;obtain⟨m3,h3,h⟩:=Fi h;obtain⟨p,h4,h⟩:=Fi h;obtain⟨m4,h5,h⟩:=Fi h;obtain⟨m5,h6,h⟩:=Fi h;obtain rfl:=Fk h;exact(l7 h1).trans ((fh h2).trans ((fh h3).trans ((lc h4).trans ((fP h5).trans (td h6)))))
theorem yd{s:Nat}{x:Sl}{q:Nat×Mm}(h:tR s x m=some q):Sm m q.2:=by
 unfold tR at h;obtain⟨f,h1,h⟩:=Fi h;obtain⟨m1,h2,h⟩:=Fi h;obtain⟨m2,h3,h⟩:=Fi h;obtain⟨m3,h4,h⟩:=Fi h;obtain⟨m4,h5,h⟩:=Fi h;obtain rfl:=Fk h;exact(uB h2).trans ((fh h3).trans ((fP h4).trans (oY h5 l7)))
theorem BI{c:Nat}{q:(Nat×Nat)×Mm}(h:dd c m=some q):Sm m q.2:=by
 unfold dd at h;split at h
 ·obtain⟨s,_,h⟩:=Fi h;split at h
  ·obtain⟨x,_,h⟩:=Fi h;obtain⟨p,h1,h⟩:=Fi h;obtain rfl:=Fk h;exact yd h1
  ·obtain⟨s,_,h⟩:=Fi h;split at h
   ·obtain rfl:=Fk h;exact Sm.refl _
   ·obtain⟨x,_,h⟩:=Fi h;obtain⟨y,h1,h⟩:=Fi h;obtain⟨p,h2,h⟩:=Fi h;obtain rfl:=Fk h;exact(rC h1).trans (yd h2)
 ·cases h
end Go.FC
