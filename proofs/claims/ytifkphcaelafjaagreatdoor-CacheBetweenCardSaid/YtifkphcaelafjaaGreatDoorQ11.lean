/-
  Lemmas on the way to the row. No condition beyond their own.
-/
import Derived.Test.YtifkphcaelafjaaGreatDoorQ10
set_option maxHeartbeats 25600000
set_option maxRecDepth 100000
set_option linter.unusedVariables false
set_option linter.unusedSimpArgs false
namespace Go.Proofs.YtifkphcaelafjaaGreatDoor
open Tryz
open Go.RowKit Go.Colm Go.FC Go.Maps Go.FP Go.Fy Go.Fz
section
variable{O:av}{μ:Mm}{w:World}
theorem Aj(h:ao O μ w)(v:Nat):∃w0 w1,w0=w.alloc (.cells #[.pointer (some ⟨O.mb,0,none⟩)] 68)/\w1=w0.alloc (.cells #[.int .i64 (v:Int)] 3)/\MG O w μ w1/\¬au O w.heap.size/\¬au O (w.heap.size+1)/\∀m W,MG O w1 m W->W.cell? ⟨w.heap.size,0,none⟩=some (.pointer (some ⟨O.mb,0,none⟩))/\W.cell? ⟨w.heap.size+1,0,none⟩=some (.int .i64 (v:Int)):=by
 obtain⟨w0,Fx⟩:=Fp (w.alloc (.cells #[.pointer (some ⟨O.mb,0,none⟩)] 68));obtain⟨w1,FJ⟩:=Fp (w0.alloc (.cells #[.int .i64 (v:Int)] 3));have GK:MG O w μ w0:=by rw[Fx];exact(MG.refl h).alloc _
 have Gz:MG O w μ w1:=by rw[FJ];exact GK.alloc _
 have Gd:Whole w0 w.heap.size 68 #[.pointer (some ⟨O.mb,0,none⟩)]:=by rw[Fx];exact Whole.new w _ _
 have FN:Below w0.heap.size w0 w1:=by rw[FJ];exact(Below.refl _ _).alloc (Fm _) _
 have PO:=(FN.block _ Gd.lt).trans Gd;change Whole w1 w.heap.size _ _ at PO;have Gp:Whole w1 w0.heap.size 3 #[.int .i64 (v:Int)]:=by rw[FJ];exact Whole.new w0 _ _
 have e:w0.heap.size=w.heap.size+1:=by rw[Fx,bI]
 rw[e]at Gp;have n1:¬au O w.heap.size:=h.Fu (Fm _);have n2:¬au O (w.heap.size+1):=h.Fu (by omega);exact⟨w0,w1,Fx,FJ,Gz,n1,n2,λm W hg=>⟨hg.kept.cell (PO.cell 0) n1,hg.kept.cell (Gp.cell 0) n2⟩⟩
theorem Cl(h:ao O μ w)(s c a:Nat)(μ':Mm)(hv:sT s c μ=some (a,μ')):Calls prog 113 #[.pointer (some ⟨O.mb,0,none⟩),.int .i64 (s:Int),.int .i64 (c:Int)] w λe w'=>e= .returned (.tuple #[.int .i64 (a:Int),.int .i64 0])/\MG O w μ' w':=by
 obtain⟨F8,IX⟩:=h.GX;obtain⟨x,h1,F6⟩:=Fi hv;by_cases Mg:ai x.Ft<x.live
 ·rw[if_pos Mg]at F6;cases F6
 rw[if_neg Mg]at F6;have hs:=(iI h1).1;obtain⟨w0,w1,Fx,FJ,Gz,n1,n2,hX⟩:=Aj h s;have FA:=Fh Gz;have FE:=Fh (MG.refl Gz.has);have HX:=Fh hX;have HE:=enters_of func210 (by kernel_rfl) rfl;have HO1:=Fh (λW (hg:MG O w1 μ W)=>DN hg.has s w.heap.size (w.heap.size+1) x (hX _ _ hg).1 (hX _ _ hg).2 h1 (by omega));have x0:=(HX.o _ _ FE.o).1;have x1:=(HX.o _ _ FE.o).2;obtain⟨b1,FN⟩:=Fp w.heap.size;obtain⟨b2,FF⟩:=Fp (w.heap.size+1);rw[<-FF,<-FN]at HX HO1;rw[<-FN]at x0;rw[<-FF]at x1;by_cases hp:aR x=0
 ·rw[if_pos hp]at F6;obtain⟨q,h2,F0⟩:=Fi F6;obtain⟨⟨a1,er⟩,m1⟩:=q;dsimp only at F0;by_cases he:er≠0
  ·rw[if_pos he]at F0;cases F0
  rw[if_neg he]at F0;obtain⟨rfl,rfl⟩:a1=a/\m1=μ':=by simpa using F0
  obtain rfl:er=0:=by omega
  rw[hp]at HO1;simp only [show decide (0<0)=false from rfl]at HO1;have Wm:=λW (hg:MG O w1 μ W)=>pa hg.has c a1 0 m1 h2;simp only [show((0:Nat):Int)=0 from rfl]at Wm;have HTK:=Fh Wm;clear h hv F6 F0 h1 h2 Gz n1 n2 hX Mg hp he hs Wm F8 IX;go_in;go_upto_region 1 with fail;rw[<-Fx,<-FJ,<-FF,<-FN];clear Fx FJ FN FF;go_wp2_with fail;refine(HO1.o _ FE.o).mono ?_;rintro e w2⟨rfl,hg⟩;have FK:=Fh (FE.o.trans hg);clear hg;clear x0 x1;have x0:=(HX.o _ _ FK.o).1;have x1:=(HX.o _ _ FK.o).2;go_wp2_with fail;refine(HTK.o _ FK.o).mono ?_;rintro e w3⟨rfl,hg⟩;have FT:=Fh (FK.o.trans hg);clear hg;go_wp2;go_ret2;exact⟨rfl,FA.o.trans FT.o⟩
 ·rw[if_neg hp]at F6;obtain⟨m1,h2,F0⟩:=Fi F6;obtain⟨q,h3,GM⟩:=Fi F0;obtain⟨⟨a1,er⟩,m2⟩:=q;dsimp only at GM;by_cases he:er≠0
  ·rw[if_pos he]at GM;cases GM
  rw[if_neg he]at GM;obtain⟨m3,h4,h5⟩:=Fi GM;obtain⟨rfl,rfl⟩:a1=a/\m3=μ':=by simpa using h5
  obtain rfl:er=0:=by omega
  have hc:1<=c/\c<=9:=by
   unfold dd at h3;by_cases hc:1<=c/\c<=9
   ·exact hc
   ·rw[if_neg hc]at h3;cases h3
  have IU:s<m2.Fq:=by rw[((l7 h2).trans (BI h3)).1];exact hs
  rw[decide_eq_true (by omega:0<aR x)]at HO1;have Wn:=Fh (λW (hg:MG O w1 μ W)=>ol hg.has c s m1 (by omega) hs h2 (λq W2 Gg hq=>cL Gg.has c s q (by omega) (by omega) hq) (λq hq=>cJ hq (by omega)));have Wm:=λW (hg:MG O w1 m1 W)=>pa hg.has c a1 0 m2 h3;simp only [show((0:Nat):Int)=0 from rfl]at Wm;have HTK:=Fh Wm;have Nu:=Fh (λW (hg:MG O w1 m2 W)=>om hg.has c s m3 (by omega) IU h4 (λc2 q W2 KQ Gg hq=>cL Gg.has c2 s q KQ (by omega) hq) (λq hq=>cJ hq (by omega)));clear h hv F6 F0 GM h1 h2 h3 h4 h5 Gz n1 n2 hX Mg hp he hs IU Wm F8 IX hc;go_in;go_upto_region 1 with fail;rw[<-Fx,<-FJ,<-FF,<-FN];clear Fx FJ FN FF;go_wp2_with fail;refine(HO1.o _ FE.o).mono ?_;rintro e w2⟨rfl,hg⟩;have FK:=Fh (FE.o.trans hg);clear hg;clear x0 x1;have x0:=(HX.o _ _ FK.o).1;have x1:=(HX.o _ _ FK.o).2;go_wp2_with fail;refine(Wn.o _ FK.o).mono ?_;rintro e w3⟨rfl,hg⟩;have FT:=Fh (FK.o.trans hg);clear hg;clear x0 x1;have x0:=(HX.o _ _ FT.o).1;have x1:=(HX.o _ _ FT.o).2;go_wp2_with fail;refine(HTK.o _ FT.o).mono ?_;rintro e w4⟨rfl,hg⟩;have FW:=Fh (FT.o.trans hg);clear hg;clear x0 x1;have x0:=(HX.o _ _ FW.o).1;have x1:=(HX.o _ _ FW.o).2;go_wp2_with fail;refine(Nu.o _ FW.o).mono ?_;rintro e w5⟨rfl,hg⟩;have Gj:=Fh (FW.o.trans hg);clear hg;go_wp2;go_ret2;exact⟨rfl,FA.o.trans Gj.o⟩
end
theorem lr{m:Mm}:∀ {k s:Nat} {l:List Sl},jn m s k=some l->l.length=k/\∀i x,l[i]? =some x->dR (s+i) m=some x
 |0,s,l,h=>by
  obtain rfl:=Fk h;exact⟨rfl,λi x hx=>by simp at hx⟩
 |k+1,s,l,h=>by
  obtain⟨y,h1,h2⟩:=Fi h;obtain⟨r,h3,h4⟩:=Fi h2;obtain rfl:=Fk h4;obtain⟨i1,i2⟩:=lr h3;refine⟨by rw[List.length_cons,i1],λi x hx=> ?_⟩;cases i with
  |zero=>
   simp at hx;subst hx;exact h1
  |succ i=>
   have:=i2 i x (by simpa using hx);rw[show s+(i+1)=s+1+i by omega];exact this
section
variable{O:av}{μ:Mm}{w:World}
theorem ve(h:ao O μ w)(k:FuncId)(cp:Array Value)(henter:∀(vs:Array Value) (W:World),(callFunc k vs).run prog W= .ok (.enter k vs) W)(l:List Sl)(hv:jn μ 0 μ.Fq=some l)
  (I:Nat->World->Prop) (h0:I 0 w) (hI:∀i W W',I i W->MG O W μ W'->I i W') (hM:∀i W,I i W->ao O μ W)
  (JC:∀i x W,l[i]? =some x->I i W->Calls prog k (#[.int .i64 (i:Int),.agg (LF x)]++cp) W λe w'=>e= .returned (.tuple #[])/\I (i+1) w'):
  Calls prog 201 #[.pointer (some ⟨O.mb,0,none⟩),.func (.func k) #[] cp] w λe w'=>e= .returned (.tuple #[])/\I μ.Fq w':=by
 obtain⟨F8,IX⟩:=h.GX;obtain⟨G1,Gw⟩:=lr hv;have HC:=Fh (aD h);have HI0:=Fh h0;have HI:=Fh hI;have HM:=Fh hM;have LG:=Fh JC;have Gn:=Fh (λi x W (hg:ao O μ W) (hx:l[i]? =some x)=>gx hg i x (by have:=Gw i x hx;rw[Nat.zero_add]at this;exact this));have HE:=henter;have HBM:Hid (∀W,Below w.heap.size w W->MG O w μ W):=Fh λW hb=>(MG.refl h).below hb;obtain⟨S,hS⟩:=Fp μ.Fq;rw[<-hS]at HC IX G1⊢;have L0:=Fh G1;clear h hv h0 hI hM JC Gw henter hS G1 F8;go_in;go_wp2_with fail
 try go_step3
 try go_wp2_with fail
 refine HC.o.mono ?_;rintro e w1⟨rfl,hb⟩;have HI1:=Fh (HI.o 0 _ _ HI0.o (HBM.o _ hb));clear hb;go_wp2_with fail
 go_loopw [4,5,6,10] (λ_ _ _ Zx W=>∃i:Nat,i<=S/\Zx= .int .i64 i/\Hid (I i W)) (λ_ _ _ Zx W=>match Zx with| .int _ m=>S-m.toNat|_=>0)
 case atStart=>exact⟨0,Nat.zero_le _,rfl,HI1⟩
 case round=>
  obtain⟨i,hi,rfl,Ya⟩:=hrel;by_cases FR:i<S
  ·obtain⟨x,hx⟩:∃x,l[i]? =some x:=⟨_,Fl (by have:=L0.o;omega)⟩;have Gw:=Gn.o i x _ (HM.o _ _ Ya.o) hx;have Hz:=λW (hi:I i W)=>LG.o i x W hx hi;unfold LF at Gw Hz;have HG:=Fh Gw;have HS:=Fh Hz;clear Gw Hz hx;go_wp2_with fail;refine HG.o.mono ?_;rintro e w2⟨rfl,hg⟩;have HI2:=Fh (HI.o i _ _ Ya.o (hg.alloc (.cells #[.int .i64 (x.Ft:Int),.int .i64 (x.live:Int),.int .u32 (x.free:Int),.int .i64 (x.next:Int),.int .i64 (x.prev:Int)] 176)));clear hg;go_wp2_with fail;refine(HS.o _ HI2.o).mono ?_;rintro e w3⟨rfl,hi3⟩;have XY:=Fh hi3;clear hi3;go_wp2_with fail;exact⟨⟨i+1,by omega,by go_num,XY⟩,by simp;omega⟩
  ·have hii:i=S:=by omega
   subst hii;go_wp2;go_end0;exact⟨rfl,Ya.o⟩
end
def ZG(f:Nat->Nat):Array Value:= #[.int .i64 (f 0:Int),.int .i64 (f 1:Int),.int .i64 (f 2:Int),.int .i64 (f 3:Int),.int .i64 (f 4:Int),.int .i64 (f 5:Int),.int .i64 (f 6:Int),.int .i64 (f 7:Int),.int .i64 (f 8:Int),.int .i64 (f 9:Int)]
theorem DO(f:Nat->Nat){c:Nat}(hc:c<10):(ZG f)[c]? =some (.int .i64 (f c:Int)):=by
 have h:c=0\/c=1\/c=2\/c=3\/c=4\/c=5\/c=6\/c=7\/c=8\/c=9:=by omega
 rcases h with rfl|rfl|rfl|rfl|rfl|rfl|rfl|rfl|rfl|rfl<;>rfl
theorem DP(f:Nat->Nat){c:Nat}(hc:c<10)(v:Nat):(ZG f).setIfInBounds c (.int .i64 (v:Int))=ZG λi=>if i=c then v else f i:=by
 have h:c=0\/c=1\/c=2\/c=3\/c=4\/c=5\/c=6\/c=7\/c=8\/c=9:=by omega
 rcases h with rfl|rfl|rfl|rfl|rfl|rfl|rfl|rfl|rfl|rfl<;>rfl
section
variable{O:av}{μ:Mm}{w:World}
structure RG(O:av)(μ:Mm)(w:World)(rb:Nat)(f:Nat->Nat)(W:World):Prop where
 mg:MG O w μ W
 pt:Whole W rb 252 (ZG f)
 nt:¬au O rb
variable{rb:Nat}{f:Nat->Nat}{W:World}
theorem RG.on{W2:World}(h:RG O μ w rb f W)(k:MG O W μ W2):RG O μ w rb f W2:=⟨h.mg.trans k,k.kept.whole h.pt h.nt,h.nt⟩
theorem RG.below{W2:World}(h:RG O μ w rb f W)(k:Below W.heap.size W W2):RG O μ w rb f W2:=h.on ((MG.refl h.mg.has).below k)
theorem RG.cell(h:RG O μ w rb f W){c:Nat}(hc:c<10):W.cell? ⟨rb,c,none⟩=some (.int .i64 (f c:Int)):=by rw[h.pt.cell,DO f hc]
def R2(O:av)(μ:Mm)(w:World)(rb:Nat)(f:Nat->Nat)(sb:Nat)(x:Sl)(W:World):Prop:=RG O μ w rb f W/\Whole W sb 176 (LF x)
theorem DQ(s:Nat)(x:Sl)(w0:World)(h:RG O μ w rb f w0)(h0:w.heap.size<=rb)(hw:ao O μ w)(hc:x.Ft<=9)(hx:x.live<=ai x.Ft)(hf:f x.Ft<=1000000):
  Calls prog 202 #[.int .i64 (s:Int),.agg (LF x),.pointer (some ⟨rb,0,none⟩)] w0 λe w'=>e= .returned (.tuple #[])/\RG O μ w rb (λi=>if i=x.Ft then f x.Ft+aR x else f i) w':=by
 obtain⟨w1,FJ⟩:=Fp (w0.alloc (.cells (LF x) 176));have FN:Below w0.heap.size w0 w1:=by rw[FJ];exact(Below.refl _ w0).alloc (Fm _) _
 have Gp:Whole w1 w0.heap.size 176 (LF x):=by rw[FJ];exact Whole.new w0 _ _
 obtain⟨sb,Jf⟩:=Fp w0.heap.size;rw[<-Jf]at Gp;have h2:R2 O μ w rb f sb x w1:=⟨h.below FN,Gp⟩;have hne:rb≠sb:=by have:=h.pt.lt;omega
 have Ki:=λW (hs:R2 O μ w rb f sb x W)=>(ni x W hs.1.mg.has.env.Hk hx).mono λe w' hq=>(⟨_,hq.1,rfl,hs.1.below hq.2,(hq.2.block _ hs.2.lt).trans hs.2⟩:∃v,e= .returned v/\v= .int .i64 (aR x:Int)/\R2 O μ w rb f sb x w');have hle:=(bF x.Ft).1;have Gu:R2 O μ w rb f sb x w1.drew:=⟨h2.1.below (Below.refl _ _).drew,fS h2.2⟩;have hR:Hid (∀W v,R2 O μ w rb f sb x W->RG O μ w rb (λi=>if i=x.Ft then v else f i) (W.setCell ⟨rb,x.Ft,none⟩ (.int .i64 (v:Int)))):=Fh λW v hs=>⟨MG.beside hw hs.1.mg ((aa.refl (λk=>k=rb) W).setCell (.inl rfl) _) (λk e=>by rw[e];exact h0),by rw[<-DP f (by omega) v];exact hs.1.pt.put x.Ft _,hs.1.nt⟩;obtain⟨sp,OI⟩:=Fp (aR x);have hsp32:sp<=32:=by rw[OI];unfold aR;omega
 rw[<-OI];simp only [<-OI]at Ki;obtain⟨z,hz⟩:=Fp (f x.Ft);have HCZ:Hid (∀W,R2 O μ w rb f sb x W->W.cell? ⟨rb,x.Ft,none⟩=some (.int .i64 (z:Int))):=Fh λW hs=>by rw[hs.1.cell (by omega),hz]
 rw[<-hz]at hf⊢;obtain⟨y0,y1,y2,y3,y4⟩:=bt h2.2;have yz:=HCZ.o _ h2;have q1:IntKind.i64.wrap ((z:Int)+(sp:Int))=((z+sp:Nat):Int):=by rw[IntKind.wrap_i64];omega
 have q2:x.Ft<10:=by omega
 have q3:(0:Int)<=(x.Ft:Int):=by omega
 have q4:(x.Ft:Int)<10:=by omega
 have Tt:=Fh Ki;have H2:=Fh h2;clear h FN Gp h2 Ki hx hle hz OI h0 hw;unfold LF at FJ Tt⊢;go_in;go_upto_region 1 with fail;rw[<-FJ,<-Jf];clear FJ Jf;go_wp2_with fail
 go_region_law (first
  |(refine aX rfl 203 #[.agg #[.int .i64 (x.Ft:Int),.int .i64 (x.live:Int),.int .u32 (x.free:Int),.int .i64 (x.next:Int),.int .i64 (x.prev:Int)]] ?_ _ (Tt.o _ (by assumption)) ?_
    ·(go_simp;done)
    rintro v5 w5⟨rfl,Ik⟩;have Qr:=Fh Ik;have f5:=Ik.1.pt.frozen x.Ft;have yz5:=HCZ.o _ Ik;obtain⟨z0,z1,z2,z3,z4⟩:=bt Ik.2))
 all_goals
  go_end0;refine⟨rfl,?_⟩;have h9:=hR.out _ (z+sp) Qr.o;rw[Int.natCast_add]at h9;exact h9
end
def N3:Option (Nat×Nat)->Int×Int
 |none=>(-1,0)
 |some q=>(q.1,q.2)
def Cn(f:Nat->Nat)(s:Nat)(x:Sl)(b:Option (Nat×Nat)):Option (Nat×Nat):=if x.Ft=0\/f x.Ft-aR x<x.live then b else match b with
 |none=>some (s,x.live)
 |some q=>if x.live<q.2 then some (s,x.live)else some q
section
variable{O:av}{μ:Mm}{w:World}
structure BS(O:av)(μ:Mm)(w:World)(rb bb nb:Nat)(f:Nat->Nat)(b:Option (Nat×Nat))(W:World):Prop where
 r:RG O μ w rb f W
 p1:Whole W bb 3 #[.int .i64 (N3 b).1]
 p2:Whole W nb 3 #[.int .i64 (N3 b).2]
 n1:¬au O bb
 n2:¬au O nb
variable{rb bb nb:Nat}{f:Nat->Nat}{b:Option (Nat×Nat)}{W:World}
theorem BS.on{W2:World}(h:BS O μ w rb bb nb f b W)(k:MG O W μ W2):BS O μ w rb bb nb f b W2:=⟨h.r.on k,k.kept.whole h.p1 h.n1,k.kept.whole h.p2 h.n2,h.n1,h.n2⟩
theorem BS.below{W2:World}(h:BS O μ w rb bb nb f b W)(k:Below W.heap.size W W2):BS O μ w rb bb nb f b W2:=h.on ((MG.refl h.r.mg.has).below k)
structure BX(O:av)(μ:Mm)(w:World)(rb bb nb:Nat)(f:Nat->Nat)(b:Option (Nat×Nat))(sb:Nat)(x:Sl)(W:World):Prop where
 s:BS O μ w rb bb nb f b W
 x:Whole W sb 176 (LF x)
variable{sb:Nat}{x:Sl}
theorem BX.below{W2:World}(h:BX O μ w rb bb nb f b sb x W)(k:Below W.heap.size W W2):BX O μ w rb bb nb f b sb x W2:=⟨h.s.below k,(k.block _ h.x.lt).trans h.x⟩
theorem DR(s:Nat)(x:Sl)(w0:World)(h:BS O μ w rb bb nb f b w0)(hw:ao O μ w)(h1:w.heap.size<=bb)(h2:w.heap.size<=nb)(h3:rb≠bb)(h4:rb≠nb)(h5:bb≠nb)(hc:x.Ft<=9)(hx:x.live<=ai x.Ft)(hf:f x.Ft<=1000000)(hfs:aR x<=f x.Ft)(Ik:s<1000000):
  Calls prog 204 #[.int .i64 (s:Int),.agg (LF x),.pointer (some ⟨rb,0,none⟩),.pointer (some ⟨bb,0,none⟩),.pointer (some ⟨nb,0,none⟩)] w0 λe w'=>e= .returned (.tuple #[])/\BS O μ w rb bb nb f (Cn f s x b) w':=by
 obtain⟨w1,FJ⟩:=Fp (w0.alloc (.cells (LF x) 176));have FN:Below w0.heap.size w0 w1:=by rw[FJ];exact(Below.refl _ w0).alloc (Fm _) _
 have Gp:Whole w1 w0.heap.size 176 (LF x):=by rw[FJ];exact Whole.new w0 _ _
 obtain⟨sb,Jf⟩:=Fp w0.heap.size;rw[<-Jf]at Gp;have hX:BX O μ w rb bb nb f b sb x w1:=⟨h.below FN,Gp⟩;have Ki:=λW (hs:BX O μ w rb bb nb f b sb x W)=>(ni x W hs.s.r.mg.has.env.Hk hx).mono λe w' hq=>(⟨hq.1,hs.below hq.2⟩:e= .returned (.int .i64 (aR x:Int))/\BX O μ w rb bb nb f b sb x w');have hle:=(bF x.Ft).1;have Gu:BX O μ w rb bb nb f b sb x w1.drew:=hX.below (Below.refl _ _).drew;obtain⟨sp,OI⟩:=Fp (aR x);obtain⟨z,hz⟩:=Fp (f x.Ft);have HRN:Hid (∀v W,BX O μ w rb bb nb f b sb x W->∀n:Nat,v=(s:Int)->BS O μ w rb bb nb f (some (s,n)) ((W.setCell ⟨bb,0,none⟩ (.int .i64 v)).setCell ⟨nb,0,none⟩ (.int .i64 (n:Int)))):=Fh λv W hs n hv=>by
  subst hv;have k2:aa (λk=>k=bb\/k=nb) W ((W.setCell ⟨bb,0,none⟩ (.int .i64 (s:Int))).setCell ⟨nb,0,none⟩ (.int .i64 (n:Int))):=((aa.refl (λk=>k=bb\/k=nb) W).setCell (p:=⟨bb,0,none⟩) (.inl (.inl rfl)) _).setCell (p:=⟨nb,0,none⟩) (.inl (.inr rfl)) _;refine⟨⟨MG.beside hw hs.s.r.mg k2 (λk e=>by rcases e with e|e<;>omega),k2.whole hs.s.r.pt (by omega),hs.s.r.nt⟩,?_,?_,hs.s.n1,hs.s.n2⟩
  ·exact((aa.refl (λk=>k=nb) (W.setCell ⟨bb,0,none⟩ (.int .i64 (s:Int)))).setCell (p:=⟨nb,0,none⟩) (.inl rfl) _).whole (hs.s.p1.put 0 _) h5
  ·have p:=((aa.refl (λk=>k=bb) W).setCell (p:=⟨bb,0,none⟩) (.inl rfl) (.int .i64 (s:Int))).whole hs.s.p2 (λe=>h5 e.symm);exact p.put 0 _
 have hH:∀W,BX O μ w rb bb nb f b sb x W->aa (λ_=>True) w W/\W.cell? ⟨sb,0,none⟩=some (.int .i64 (x.Ft:Int))/\W.cell? ⟨sb,1,none⟩=some (.int .i64 (x.live:Int))/\W.cell? ⟨sb,2,none⟩=some (.int .u32 (x.free:Int))/\W.cell? ⟨sb,3,none⟩=some (.int .i64 (x.next:Int))/\W.cell? ⟨sb,4,none⟩=some (.int .i64 (x.prev:Int))/\W.cell? ⟨rb,x.Ft,none⟩=some (.int .i64 (z:Int)):=λW hs=>by
  obtain⟨y0,y1,y2,y3,y4⟩:=bt hs.x;exact⟨hs.s.r.mg.kept.mono λ_ _ _=>trivial,y0,y1,y2,y3,y4,by rw[hs.s.r.cell (by omega),hz]⟩
 have HH:=Fh hH;have HB:Hid (∀W,BX O μ w rb bb nb f b sb x W->W.cell? ⟨bb,0,none⟩=some (.int .i64 (N3 b).1)/\W.cell? ⟨nb,0,none⟩=some (.int .i64 (N3 b).2)/\W.frozen? ⟨bb,0,none⟩=false/\W.frozen? ⟨nb,0,none⟩=false):=Fh λW hs=>⟨hs.s.p1.cell 0,hs.s.p2.cell 0,hs.s.p1.frozen 0,hs.s.p2.frozen 0⟩;unfold Cn;rw[<-OI,<-hz]at hfs;rw[<-OI,<-hz];simp only [<-OI]at Ki;rw[<-hz]at hf;obtain⟨d,hd⟩:=Fp (z-sp);rw[<-hd];have q1:IntKind.i64.wrap ((z:Int)-(sp:Int))=(d:Int):=by rw[IntKind.wrap_i64];omega
 have q2:x.Ft<10:=by omega
 have q3:(0:Int)<=(x.Ft:Int):=by omega
 have q4:(x.Ft:Int)<10:=by omega
 have Tt:=Fh Ki;have HX:=Fh hX;obtain⟨_,y0,y1,y2,y3,y4,yz⟩:=hH w1 hX;clear h FN Gp hX Ki hx hle hz OI hw hH hf hfs hd h1 h2 h3 h4;unfold LF at FJ Tt⊢;by_cases QU:x.Ft=0
 ·have c0:((x.Ft:Int)==0)=true:=by rw[QU];rfl
  rw[if_pos (.inl QU)];clear QU;go_in;go_upto_region 1 with fail;rw[<-FJ,<-Jf];clear FJ Jf
  go_region
  all_goals
   go_wp2_with fail;refine bodyPost_ret (results_none rfl _ _ _) rfl ?_;exact⟨rfl,(HX.o.below (Below.refl _ _).drew).s⟩
 have c0:((x.Ft:Int)==0)=false:=by rw[Fo];omega
 by_cases QX:d<x.live
 ·rw[if_pos (.inr QX)];have c1:decide ((x.live:Int)>(d:Int))=true:=by simp;omega
  have c2:decide ((d:Int)<(x.live:Int))=true:=by simp;omega
  have c3:decide (d<x.live)=true:=by simp;omega
  clear QX QU;go_in;go_upto_region 1 with fail;rw[<-FJ,<-Jf];clear FJ Jf
  go_region_held3 (λW=>aa (λ_=>True) w W/\W.cell? ⟨sb,0,none⟩=some (.int .i64 (x.Ft:Int))/\W.cell? ⟨sb,1,none⟩=some (.int .i64 (x.live:Int))/\W.cell? ⟨sb,2,none⟩=some (.int .u32 (x.free:Int))/\W.cell? ⟨sb,3,none⟩=some (.int .i64 (x.next:Int))/\W.cell? ⟨sb,4,none⟩=some (.int .i64 (x.prev:Int))/\W.cell? ⟨rb,x.Ft,none⟩=some (.int .i64 (z:Int)))
  (first|assumption|exact HH.o _ (by assumption))
  (first
   |((go_at_call 203;refine(Tt.o _ (by assumption)).mono ?_);rintro e w5 ⟨rfl,Ik⟩))
  have QZ:=Fh Ik;clear Ik Gu y0 y1 y2 y3 y4 yz;go_wp2_with fail;refine bodyPost_ret (results_none rfl _ _ _) rfl ?_;exact⟨rfl,QZ.o.s⟩
 rw[if_neg (by omega)];have c1:decide ((x.live:Int)>(d:Int))=false:=by simp;omega
 have c2:decide ((d:Int)<(x.live:Int))=false:=by simp;omega
 have c3:decide (d<x.live)=false:=by simp;omega
 clear QX QU;cases b with
 |none=>
  simp only [N3]at HB;go_in;go_upto_region 1 with fail;rw[<-FJ,<-Jf];clear FJ Jf
  go_region_held3 (λW=>aa (λ_=>True) w W/\W.cell? ⟨sb,0,none⟩=some (.int .i64 (x.Ft:Int))/\W.cell? ⟨sb,1,none⟩=some (.int .i64 (x.live:Int))/\W.cell? ⟨sb,2,none⟩=some (.int .u32 (x.free:Int))/\W.cell? ⟨sb,3,none⟩=some (.int .i64 (x.next:Int))/\W.cell? ⟨sb,4,none⟩=some (.int .i64 (x.prev:Int))/\W.cell? ⟨rb,x.Ft,none⟩=some (.int .i64 (z:Int)))
   (first|assumption|exact HH.o _ (by assumption))
   (first
    |((go_at_call 203;refine(Tt.o _ (by assumption)).mono ?_);rintro e w5 ⟨rfl,Ik⟩))
  have QZ:=Fh Ik;clear Ik Gu y0 y1 y2 y3 y4 yz;obtain⟨_,y0,y1,y2,y3,y4,yz⟩:=HH.o _ QZ.o;obtain⟨k1,k2,k3,k4⟩:=HB.o _ QZ.o;go_wp2_with fail
  go_region
  all_goals
   go_wp2;go_end0;exact⟨rfl,HRN.o _ _ (QZ.o.below (Below.refl _ _).drew) x.live rfl⟩
 |some q=>
  simp only [N3]at HB;dsimp only;have e1:((q.1:Int)== -1)=false:=by rw[Fo];omega
  by_cases hlq:x.live<q.2
  ·rw[if_pos hlq];have e2:decide ((x.live:Int)<(q.2:Int))=true:=by simp;omega
   have e3:decide (x.live<q.2)=true:=by simp;omega
   clear hlq;go_in;go_upto_region 1 with fail;rw[<-FJ,<-Jf];clear FJ Jf
   go_region_held3 (λW=>aa (λ_=>True) w W/\W.cell? ⟨sb,0,none⟩=some (.int .i64 (x.Ft:Int))/\W.cell? ⟨sb,1,none⟩=some (.int .i64 (x.live:Int))/\W.cell? ⟨sb,2,none⟩=some (.int .u32 (x.free:Int))/\W.cell? ⟨sb,3,none⟩=some (.int .i64 (x.next:Int))/\W.cell? ⟨sb,4,none⟩=some (.int .i64 (x.prev:Int))/\W.cell? ⟨rb,x.Ft,none⟩=some (.int .i64 (z:Int)))
    (first|assumption|exact HH.o _ (by assumption))
    (first
     |((go_at_call 203;refine(Tt.o _ (by assumption)).mono ?_);rintro e w5 ⟨rfl,Ik⟩))
   have QZ:=Fh Ik;clear Ik Gu y0 y1 y2 y3 y4 yz;obtain⟨_,y0,y1,y2,y3,y4,yz⟩:=HH.o _ QZ.o;obtain⟨k1,k2,k3,k4⟩:=HB.o _ QZ.o;go_wp2_with fail
   go_region
   all_goals
    go_wp2;go_end0;exact⟨rfl,HRN.o _ _ (QZ.o.below (Below.refl _ _).drew) x.live rfl⟩
  ·rw[if_neg hlq];have e2:decide ((x.live:Int)<(q.2:Int))=false:=by simp;omega
   have e3:decide (x.live<q.2)=false:=by simp;omega
   clear hlq;go_in;go_upto_region 1 with fail;rw[<-FJ,<-Jf];clear FJ Jf
   go_region_held3 (λW=>aa (λ_=>True) w W/\W.cell? ⟨sb,0,none⟩=some (.int .i64 (x.Ft:Int))/\W.cell? ⟨sb,1,none⟩=some (.int .i64 (x.live:Int))/\W.cell? ⟨sb,2,none⟩=some (.int .u32 (x.free:Int))/\W.cell? ⟨sb,3,none⟩=some (.int .i64 (x.next:Int))/\W.cell? ⟨sb,4,none⟩=some (.int .i64 (x.prev:Int))/\W.cell? ⟨rb,x.Ft,none⟩=some (.int .i64 (z:Int)))
    (first|assumption|exact HH.o _ (by assumption))
    (first
     |((go_at_call 203;refine(Tt.o _ (by assumption)).mono ?_);rintro e w5 ⟨rfl,Ik⟩))
   have QZ:=Fh Ik;clear Ik Gu y0 y1 y2 y3 y4 yz;obtain⟨_,y0,y1,y2,y3,y4,yz⟩:=HH.o _ QZ.o;obtain⟨k1,k2,k3,k4⟩:=HB.o _ QZ.o;go_wp2;go_end0;exact⟨rfl,QZ.o.s⟩
end
def EH(l:List Sl):Prop:=∀x∈l,x.Ft<=9/\x.live<=ai x.Ft
theorem xe{l:List Sl}(h:qW l=true):EH l:=λx hx=>by
 have:=List.all_eq_true.1 h x hx;simp only [Bool.and_eq_true]at this;exact⟨Nat.le_of_ble_eq_true this.1,Nat.le_of_ble_eq_true this.2⟩
theorem Co{l:List Sl}(h:EH l):qW l=true:=List.all_eq_true.2 λx hx=>by
 simp only [Bool.and_eq_true];exact⟨Nat.ble_eq_true_of_le (h x hx).1,Nat.ble_eq_true_of_le (h x hx).2⟩
theorem xg{l:List Sl}{i:Nat}{x:Sl}(h:l[i]? =some x):(λc=>if c=x.Ft then bO (l.take i) x.Ft+aR x else bO (l.take i) c)=λc=>bO (l.take (i+1)) c:=by
 obtain⟨hi,he⟩:=List.getElem?_eq_some_iff.1 h;funext c;have e:l.take (i+1)=l.take i++ [x]:=by rw[List.take_succ_eq_append_getElem hi,he]
 rw[e];unfold bO;rw[List.map_append,List.sum_append];by_cases hc:c=x.Ft
 ·rw[if_pos hc,hc];simp
 ·rw[if_neg hc];have h2:¬x.Ft=c:=λe=>hc e.symm;simp[h2]
theorem vf(l:List Sl)(c:Nat):bO l c<=32*l.length:=by
 induction l with
 |nil=>simp[bO]
 |cons x l ih=>
  have h:bO (x::l) c=(if x.Ft=c then aR x else 0)+bO l c:=by simp[bO]
  have h1:aR x<=32:=by
   have:=(bF x.Ft).1;unfold aR;omega
  rw[h,List.length_cons];split<;>omega
theorem Am{l:List Sl}{x:Sl}(h:x∈l):aR x<=bO l x.Ft:=by
 induction l with
 |nil=>simp at h
 |cons y l ih=>
  have e:bO (y::l) x.Ft=(if y.Ft=x.Ft then aR y else 0)+bO l x.Ft:=by simp[bO]
  rw[e];rcases List.mem_cons.1 h with rfl|h
  ·rw[if_pos rfl];omega
  ·have:=ih h;omega
theorem xh(all:List Sl)(s:Nat)(x:Sl)(l:List Sl)(b:Option (Nat×Nat)):iW all s (x::l) b=iW all (s+1) l (Cn (λc=>bO all c) s x b):=rfl
section
variable{O:av}{μ:Mm}{w:World}
theorem An(h:ao O μ w)(l:List Sl)(r:Option Nat)(hl:jn μ 0 μ.Fq=some l)(hv:og μ=some r):Calls prog 110 #[.pointer (some ⟨O.mb,0,none⟩)] w λe w'=>e= .returned (.tuple #[.int .i64 ((r.getD 0:Nat):Int),.bool r.isSome])/\MG O w μ w':=by
 obtain⟨F8,IX⟩:=h.GX;obtain⟨G1,Ib⟩:=lr hl;obtain⟨l',Iu,F0⟩:=Fi hv;obtain rfl:l=l':=Fk (hl.symm.trans Iu);have J2:EH l:=by
  cases hq:qW l with
  |false=>rw[if_pos hq]at F0;cases F0
  |true=>exact xe hq
 rw[if_neg (by rw[Co J2];decide)]at F0;obtain⟨w0,Fx⟩:=Fp (w.alloc (.cells (ZG λ_=>0) 252));have GK:MG O w μ w0:=by rw[Fx];exact(MG.refl h).alloc _
 have Gd:Whole w0 w.heap.size 252 (ZG λ_=>0):=by rw[Fx];exact Whole.new w _ _
 obtain⟨rb,H9⟩:=Fp w.heap.size;have Tx:¬au O rb:=by rw[H9];exact h.Fu (Fm _)
 rw[<-H9]at Gd;have hR0:RG O μ w rb (λ_=>0) w0:=⟨GK,Gd,Tx⟩;have VG:=ve (k:=202) (cp:= #[.pointer (some ⟨rb,0,none⟩)]) GK.has (henter:=enters_of func202 (by kernel_rfl) rfl) l hl
  (λi W=>RG O μ w rb (λc=>bO (l.take i) c) W) (by simpa[bO]using hR0) (λi W W' hs k=>hs.on k) (λi W hs=>hs.mg.has)
  (λi x W hx hs=>by
   have hgx:=J2 x (List.mem_of_getElem? hx);have hq:=vf (l.take i) x.Ft;have hi:=(List.getElem?_eq_some_iff.1 hx).1;rw[List.length_take]at hq;refine(DQ i x W hs (by rw[H9];exact Fm _) h hgx.1 hgx.2 (by show bO (l.take i) x.Ft<=_;omega)).mono ?_;rintro e w'⟨rfl,hr⟩;rw[xg hx]at hr;exact⟨rfl,hr⟩)
 have HE1':=Fh VG;have HRB:=Fh H9;clear VG;unfold ZG at Fx;go_in;go_upto_region 2 with fail;simp only [show((0:Nat):Int)=0 from rfl]at Fx;rw[<-Fx,<-H9];clear Fx H9;go_wp2_with fail;refine HE1'.o.mono ?_;rintro e w1⟨rfl,Gp⟩;rw[<-G1,List.take_length]at Gp;go_upto_region 4 with fail;obtain⟨w2,FL⟩:=Fp (w1.alloc (.cells #[.int .i64 (-1)] 3));obtain⟨w3,F7⟩:=Fp (w2.alloc (.cells #[.int .i64 0] 3));have FF:Below w1.heap.size w1 w2:=by rw[FL];exact(Below.refl _ _).alloc (Fm _) _
 have Gf:Below w2.heap.size w2 w3:=by rw[F7];exact(Below.refl _ _).alloc (Fm _) _
 have Jn:Whole w2 w1.heap.size 3 #[.int .i64 (-1)]:=by rw[FL];exact Whole.new w1 _ _
 have WU:=(Gf.block _ Jn.lt).trans Jn;change Whole w3 w1.heap.size _ _ at WU;have Ma:Whole w3 w2.heap.size 3 #[.int .i64 0]:=by rw[F7];exact Whole.new w2 _ _
 have es:w2.heap.size=w1.heap.size+1:=by rw[FL,bI]
 rw[es]at Ma;obtain⟨bb,Ws⟩:=Fp w1.heap.size;obtain⟨nb,IJ⟩:=Fp (w1.heap.size+1);rw[<-Ws]at WU;rw[<-IJ]at Ma;have hwz:w.heap.size<=w1.heap.size:=Gp.mg.kept.size;have n1:¬au O bb:=by rw[Ws];exact h.Fu hwz
 have n2:¬au O nb:=by rw[IJ];exact h.Fu (by omega)
 have PC:=Gp.pt.lt;have WG:BS O μ w rb bb nb (λc=>bO l c) none w3:=⟨(Gp.below FF).below Gf,WU,Ma,n1,n2⟩;have hRB:=HRB.o;have Pu:=ve (k:=204) (cp:= #[.pointer (some ⟨rb,0,none⟩),.pointer (some ⟨bb,0,none⟩),.pointer (some ⟨nb,0,none⟩)]) WG.r.mg.has (henter:=enters_of func204 (by kernel_rfl) rfl) l hl
  (λi W=>∃b,BS O μ w rb bb nb (λc=>bO l c) b W/\iW l i (l.drop i) b=iW l 0 l none) ⟨none,WG,rfl⟩ (λi W W' hs k=>hs.imp λb q=>⟨q.1.on k,q.2⟩) (λi W hs=>by obtain⟨b,q,_⟩:=hs;exact q.r.mg.has)
  (λi x W hx hs=>by
   obtain⟨b,hs,hbe⟩:=hs;have hm:=List.mem_of_getElem? hx;have hgx:=J2 x hm;have hq:=vf l x.Ft;have hi:=(List.getElem?_eq_some_iff.1 hx).1;have hdr:l.drop i=x::l.drop (i+1):=by
    rw[List.drop_eq_getElem_cons hi];rw[Fl hi]at hx;rw[Fk hx]
   rw[hdr,xh]at hbe;refine(DR i x W hs h (by omega) (by omega) (by omega) (by omega) (by omega) hgx.1 hgx.2 (by show bO l x.Ft<=_;omega) (Am hm) (by omega)).mono ?_;rintro e w'⟨rfl,hr⟩;exact⟨rfl,_,hr,hbe⟩)
 have HE2':=Fh Pu;have HCW:=Fh (λW (hg:MG O w μ W) s lv h1 h2=>Ai hg.has s lv h1 h2);have hll2:=G1;clear Pu Jn WU Ma FF Gf WG n1 n2 hwz PC Gp es hRB;rw[<-FL,<-F7,<-IJ,<-Ws];clear FL F7 IJ Ws;go_wp2_with fail;refine HE2'.o.mono ?_;rintro e w4⟨rfl,b,Gk,hbe⟩;rw[<-hll2,List.drop_length]at hbe;have hbe2:b=iW l 0 l none:=hbe;rw[<-hbe2]at F0;have IM:=Fh Gk;have y0:=Gk.p1.cell 0;clear Gk hbe hbe2 G1 hll2 Ib hv hl Iu J2 hR0 Gd GK Tx HE1' HE2';cases b with
 |none=>
  obtain rfl:=Fk F0;have y1:w4.cell? ⟨bb,0,none⟩=some (.int .i64 (-1)):=y0;clear y0 F0 h;go_wp2;go_ret2;exact⟨rfl,IM.o.r.mg⟩
 |some q=>
  obtain⟨lv,h1,GM⟩:=Fi F0;obtain⟨_,h2,h3⟩:=Fi GM;obtain rfl:=Fk h3;have y1:w4.cell? ⟨bb,0,none⟩=some (.int .i64 (q.1:Int)):=y0;have c0:((q.1:Int)== -1)=false:=by rw[Fo];omega
  have HW:=Fh (HCW.o _ IM.o.r.mg q.1 lv h1 h2);have VD:=Fh IM.o.n1;clear y0 F0 GM h1 h2 h3 h;go_wp2_with fail;refine HW.o.mono ?_;rintro e w5⟨rfl,hg⟩;have y5:=hg.kept.cell y1 VD.o;have Gj:=Fh (IM.o.r.mg.trans hg);clear hg;go_wp2;go_ret2;exact⟨rfl,Gj.o⟩
end
theorem N4:(prog.info? 182).map (λi=>(i.zero,i.size,i.bytes))=some (some (.agg #[.int .i64 0,.int .i64 0]),2,16):=by kernel_rfl
def nS(p:Nat×Nat):List Value:= [.int .i64 (p.1:Int),.int .i64 (p.2:Int)]
def cW(l:List (Nat×Nat)):List Value:=l.flatMap nS
theorem vh(l:List (Nat×Nat))(p:Nat×Nat):cW (l++ [p])=cW l++nS p:=by
 unfold cW;rw[List.flatMap_append];simp
def fi(B:Nat)(w:World)(v:Value)(l:List (Nat×Nat)):Prop:=w.ownsRow B 182 2 v l.length (cW l)
theorem tk(w:World)(a b:Value)(T:TypeId):∀(j:Nat) (u:Value),[a,b][j]? =some u->(w.alloc (.cells #[a,b] T)).cell? ((⟨w.heap.size,0,none⟩:Addr).add j)=some u:=λj u hj=>by
 rw[Addr.add_lit,Nat.zero_add,Whole.cell (Whole.new w _ _),List.getElem?_toArray];exact hj
theorem n8{w:World}{ops:Array Oper}{rest:List Oper}{o:Oper}{a:Act}{Q:Exit->Act->World->Prop}(J2:o.guard=none)(s x:Operand)
  (ho:o.op= .call {callee:= .builtin .append,args:= #[s,x],argTypes:= #[110,110]})
  (B:Nat) (v:Value) (n:Nat) (xs:List Value) (hs:a.eval s=v) (Gq:w.ownsRow B 182 2 v n xs)
  (g:Nat) (p:Nat×Nat) (hx:a.eval x= .slice (some ⟨g,0,none⟩) 1 1) (hg:∀(j:Nat) (u:Value),(nS p)[j]? =some u->w.cell? ((⟨g,0,none⟩:Addr).add j)=some u) (hn:n<=1000000) (hB:B<=w.heap.size)
  (h:∀v' w',w'.ownsRow B 182 2 v' (n+1) (xs++nS p)->aa (λk=>v.ownBlock=some k) w w'->(v'.ownBlock=v.ownBlock\/v'.ownBlock=some w.heap.size)->wpList prog ops Q rest (a.put o.dst v') w'):wpList prog ops Q (o::rest) a w:=by
 obtain⟨i0,Px,G9,G8,G7⟩:=info_parts N4;refine wpList_append_own_at w J2 s x 110 ho B 182 i0 (.agg #[.int .i64 0,.int .i64 0]) 2 16 underlying110 Px G9 G8 G7 rfl (by decide) v n xs hs Gq ⟨g,0,none⟩ 1 1 (nS p) hx rfl hg (λu hu=> ?_) (by unfold maxLen;omega) (by omega) hB λv' w' h1 h2 _ h3=>h v' w' h1 (aa.grown h2) h3;simp[nS]at hu;rcases hu with rfl|rfl<;>rfl
section
variable{O:av}{μ:Mm}{w:World}
theorem Cp(h:ao O μ w){fr tw:Nat}{μ':Mm}(hv:oK fr tw μ=some μ'):tw<4294967296:=by
 unfold oK at hv;obtain⟨q,h1,F6⟩:=Fi hv;by_cases hq:q.2≠0\/q.1.tag=0
 ·rw[if_pos hq]at F6;cases F6
 rw[if_neg hq]at F6;obtain⟨_,h2,F0⟩:=Fi F6;obtain⟨s,x,h3,_⟩:=eJ h2;have:=(jA h3).2.1;have:=h.GX.1;omega
theorem lu{s c:Nat}:∀ {l:List Nat} {m:Mm} {q:List (Nat×Nat)×Mm},iC s c l m=some q->q.1.length=l.length
 | [],m,q,h=>by
  obtain rfl:=Fk h;rfl
 |a::l,m,q,h=>by
  obtain⟨o,h1,h2⟩:=Fi h;obtain⟨m1,h3,h4⟩:=Fi h2;obtain⟨r,h5,h6⟩:=Fi h4;obtain rfl:=Fk h6;rw[List.length_cons,List.length_cons,lu h5]
end
section
variable{O:av}{μ:Mm}{w:World}
def StQ(O:av)(w:World)(m:Mm)(sb:Nat)(x:Sl)(A:Option Addr)(n c:Nat)(pr:List (Nat×Nat))(W:World):Prop:=n=pr.length/\fi w.heap.size W (.slice A n c) pr/\MG O w m W/\Whole W sb 176 (LF x)
theorem yy(h:ao O μ w)(r:Option (List (Nat×Nat)))(μ':Mm)(hv:gV μ=some (r,μ')):Calls prog 57 #[.pointer (some ⟨O.mb,0,none⟩)] w λe w'=>(∃v,e= .returned (.tuple #[v,.int .i64 (if r.isSome then 0 else 7)])/\fi w.heap.size w' v (r.getD []))/\MG O w μ' w':=by
 obtain⟨F8,IX⟩:=h.GX;obtain⟨o,h1,F6⟩:=Fi hv;obtain⟨l,hl,_⟩:=Fi h1;have FE:=Fh (MG.refl h);have HC:=Fh (aD h);have X6:=Fh (λW (hg:MG O w μ W)=>An hg.has l o hl h1);have G5:=h.cf;have z:¬((μ.Fq:Int)=0):=by omega
 have zz:¬(μ.Fq=0):=by omega
 have HH:=Fh h;cases o with
 |none=>
  obtain⟨rfl,rfl⟩:none=r/\μ=μ':=by simpa using F6
  have Uv:=X6.o;simp only [Option.getD_none,Option.isSome_none,show((0:Nat):Int)=0 from rfl]at Uv;have X6:=Fh Uv;clear h hv h1 F6 hl G5 Uv F8 IX;go_in;go_wp2_with fail;refine HC.o.mono ?_;rintro e w1⟨rfl,hb⟩;have FA:=Fh (FE.o.below hb);clear hb;go_wp2_with fail;refine(X6.o _ FA.o).mono ?_;rintro e w2⟨rfl,hg⟩;have FK:=Fh (FA.o.trans hg);clear hg;go_wp2_with fail
  try rw[Exit.noGoto_ret]
  go_ret2;exact⟨⟨_,rfl,World.ownsRow_nil _ _ _ _⟩,FK.o⟩
 |some s=>
  obtain⟨x,h2,F0⟩:=Fi F6;obtain⟨lv,h3,GM⟩:=Fi F0;obtain⟨q,h4,JF⟩:=Fi GM;obtain⟨pr,mf⟩:=q;dsimp only at JF;obtain⟨nn,h5,Lk⟩:=Fi JF;obtain⟨mz,h6,h7⟩:=Fi Lk;obtain⟨rfl,rfl⟩:some pr=r/\mz=μ':=by simpa using h7
  have Uv:=X6.o;simp only [Option.getD_some,Option.isSome_some]at Uv;have X6:=Fh Uv;have Gw:=λW (hg:MG O w μ W)=>gx hg.has s x h2;unfold LF at Gw;have Gn:=Fh Gw;have HLV:=Fh (λW (hg:MG O w μ W)=>pC hg.has s lv h3);obtain⟨WT,Rc⟩:=fs h3;have RS:Hid (∀y∈lv,y<4294967296):=Fh λy hy=>by have:=Rc y hy;omega
  have H4:=Fh h4;have Ho:=lu h4;have hn:=aU h5 (by omega);have ML:pr.length<=32:=by show pr.length<=32;rw[show pr.length=lv.length from Ho];exact WT
  have Qq:=Fh (λW (hg:MG O w mf W)=>gj hg.has 20 nn (by omega) h5);have Ye:=λW (hg:MG O w mf W)=>bf hg.has 20 (nn+pr.length) mz (by omega) h6;simp only [show((nn+pr.length:Nat):Int)=(nn:Int)+(pr.length:Int)by omega]at Ye;obtain⟨P,hP⟩:=Fp pr.length;rw[<-hP]at ML;simp only [<-hP]at Ye;have HSR:=Fh Ye;have r1:IntKind.u64.wrap ((nn:Int)+(P:Int))=(nn:Int)+(P:Int):=by rw[IntKind.wrap_u64];omega
  have r2:IntKind.u64.wrap (P:Int)=(P:Int):=by rw[IntKind.wrap_u64];omega
  have HP:=Fh hP;have Jv:=Fh Ho;obtain⟨L,hL⟩:=Fp lv.length;have WO:L<=32:=by omega
  have HL:=Fh hL;clear h hv h1 h2 h3 h4 h5 h6 h7 F6 F0 GM JF Lk hl G5 Uv F8 IX Gw Ye Rc WT Ho hP hL;go_in;go_wp2_with fail;refine HC.o.mono ?_;rintro e w1⟨rfl,hb⟩;have FA:=Fh (FE.o.below hb);clear hb;go_wp2_with fail;refine(X6.o _ FA.o).mono ?_;rintro e w2⟨rfl,hg⟩;have FK:=Fh (FA.o.trans hg);clear hg;go_wp2_with fail;refine(Gn.o _ FK.o).mono ?_;rintro e w3⟨rfl,hg⟩;have FT:=Fh (FK.o.trans hg);clear hg;obtain⟨w4,Hn⟩:=Fp (w3.alloc (.cells #[.int .i64 (x.Ft:Int),.int .i64 (x.live:Int),.int .u32 (x.free:Int),.int .i64 (x.next:Int),.int .i64 (x.prev:Int)] 176));have LK:Whole w4 w3.heap.size 176 (LF x):=by rw[Hn];exact Whole.new _ _ _
  have FW:Hid (MG O w μ w4):=Fh (by rw[Hn];exact FT.o.alloc _);obtain⟨sb,Jf⟩:=Fp w3.heap.size;rw[<-Jf]at LK;have hsw:w.heap.size<=sb:=by rw[Jf];exact FT.o.kept.size
  have Wr:Hid (¬au O sb):=Fh (HH.o.Fu hsw);have Lc:=Fh LK;clear LK hsw;go_upto_region 7 with fail;rw[<-Hn,<-Jf];clear Hn Jf;go_wp2_with fail;refine(HLV.o _ FW.o).mono ?_;rintro e w5⟨v5,rfl,ho5,hg⟩;obtain⟨A3,c3,Lk,hcell⟩:=ho5.cell;subst Lk;have QP:=Fh (hg.kept.whole Lc.o Wr.o);have Qo:Hid (eU A3 lv (.slice none 0 0) w.heap.size w5):=Fh ⟨hcell,λa e=>by
   have h1:=aF ho5 (k:=a.block) (by rw[e];rfl);exact⟨Nat.le_trans FW.o.kept.size h1.1,h1.2,by simp[Value.ownBlock]⟩⟩
  have Gj:=Fh (FW.o.trans hg);rw[<-HL.o];clear hg ho5 hcell;go_wp2_with fail
  go_loopw [2,3,8,10,11,12,13,14,36] (λ_ _ s8 _ _ _ _ _ TQ W=>∃(j:Nat) (A:Option Addr) (n c:Nat) (pr1 rest:List (Nat×Nat)) (m:Mm),j<=L/\s8= .slice A n c/\TQ= .int .i64 j/\Hid (StQ O w m sb x A n c pr1 W)/\Hid (eU A3 lv (.slice A n c) w.heap.size W)/\Hid (iC s x.Ft (lv.drop j) m=some (rest,mf)/\pr1++rest=pr)) (λ_ _ _ _ _ _ _ _ TQ W=>match TQ with| .int _ m=>L-m.toNat|_=>0)
  case atStart=>exact⟨0,none,0,0,[],pr,μ,Nat.zero_le _,rfl,rfl,Fh ⟨rfl,World.ownsRow_nil _ _ _ _,Gj.o,QP.o⟩,Qo,Fh ⟨H4.o,rfl⟩⟩
  case round=>
   obtain⟨j,A,n,c,pr1,rest,m,hj,rfl,rfl,HQ,HRW,HMV⟩:=hrel;by_cases K0:j<L
   ·have G1:=HL.o;obtain⟨a,ha⟩:∃a,lv[j]? =some a:=⟨_,Fl (by omega)⟩;obtain⟨g,o,rfl,Lr⟩:=HRW.o.1 j a ha;have hdr:lv.drop j=a::lv.drop (j+1):=by
     rw[List.drop_eq_getElem_cons (by omega)];rw[Fl (by omega)]at ha;rw[Fk ha]
    have Yf:=HMV.o;rw[hdr]at Yf;obtain⟨qo,g1,g2⟩:=Fi Yf.1;obtain⟨a2,m1⟩:=qo;obtain⟨m2,g3,g4⟩:=Fi g2;obtain⟨r3,g5,g6⟩:=Fi g4;dsimp only at g3 g5 g6;obtain⟨Yg,mf2⟩:=r3;obtain⟨g7,g8⟩:(a,a2)::Yg=rest/\mf2=mf:=by simpa using g6
    subst g8;have I7:a<4294967296:=RS.o a (List.mem_of_getElem? ha);have HO:=Fh (Cl HQ.o.2.2.1.has s x.Ft a2 m1 g1);have HMO:=Fh (λW (hg:MG O w m1 W)=>DM hg.has a a2 m2 I7 (Cp hg.has g3) g3);have V1:=Fh g5;have ZH:=Yf.2;rw[<-g7]at ZH;have HPR:=Fh ZH;obtain⟨y0,y1,y2,y3,y4⟩:=bt HQ.o.2.2.2;have hn6:n<=1000000:=by
     have h1:=HQ.o.1;have h3:=congrArg List.length Yf.2;have h4:=HP.o;rw[List.length_append]at h3;omega
    clear ha hdr Yf g1 g2 g3 g4 g5 g6 g7 I7 G1 ZH y1 y2 y3 y4;go_wp2_with fail;refine HO.o.mono ?_;rintro e w6⟨rfl,hg⟩;have GP:=Fh (HQ.o.2.2.1.trans hg);have HO6:=Fh (aj HQ.o.2.1 hg.kept λj hj=>HH.o.Fu (aF HQ.o.2.1 hj).1);have PJ:=Fh (hg.kept.whole HQ.o.2.2.2 Wr.o);have YU:=Fh (HRW.o.kept hg.kept λa e=>HH.o.Fu (HRW.o.2 a e).1);clear hg y0 Lr;go_wp2_with fail;refine(HMO.o _ GP.o).mono ?_;rintro e w7⟨⟨nz,rfl⟩,hg⟩;have Iv:=Fh (GP.o.trans hg);have WQ:=Fh (aj HO6.o hg.kept λj hj=>HH.o.Fu (aF HO6.o hj).1);have HS7:=Fh (hg.kept.whole PJ.o Wr.o);have Wd:=Fh (YU.o.kept hg.kept λa e=>HH.o.Fu (YU.o.2 a e).1);clear hg;obtain⟨w8,Ql⟩:=Fp (w7.alloc (.cells #[.int .i64 (a:Int),.int .i64 (a2:Int)] 182));have k8:aa (λ_=>False) w7 w8:=by rw[Ql];exact(aa.refl (λ_=>False) w7).alloc _
    have Ow:Hid (MG O w m2 w8):=Fh (by rw[Ql];exact Iv.o.alloc _);have WR:Hid (w8.ownsRow w.heap.size 182 2 (.slice A n c) n (cW pr1)):=Fh (by have h:=aj WQ.o k8 (λ_ _ h=>h);rw[<-HQ.o.1]at h;exact h);have HS8:=Fh (k8.whole HS7.o id);have HR8:=Fh (Wd.o.kept k8 λ_ _ h=>h);have HC8:Hid (∀(j:Nat) (u:Value),(nS (a,a2))[j]? =some u->w8.cell? ((⟨w7.heap.size,0,none⟩:Addr).add j)=some u):=Fh (by rw[Ql];exact tk _ _ _ _);have Qu:Hid (w.heap.size<=w8.heap.size):=Fh Ow.o.kept.size;clear k8;subst Ql;go_wp2_with (at_builtin;refine n8 rfl _ _ rfl w.heap.size (.slice A n c) n (cW pr1) rfl WR.o w7.heap.size (a,a2) rfl HC8.o hn6 Qu.o ?_;intro v' w9 N5 hk9 hv9;have HO9:=Fh N5;have HK9:=Fh hk9;have HR9:=Fh (HR8.o.grown hk9 hv9);obtain⟨A9,c9,hv9'⟩:=aw N5;subst hv9';clear N5 hk9 hv9);refine⟨⟨j+1,A9,n+1,c9,pr1++ [(a,a2)],Yg,m2,by omega,rfl,by go_num,Fh ⟨by rw[List.length_append,<-HQ.o.1];rfl,?_,MG.beside HH.o Ow.o HK9.o λk hk=>(aF WR.o hk).1,HK9.o.whole HS8.o (aA WR.o HS8.o (by decide))⟩,HR9,Fh ⟨V1.o,by rw[List.append_assoc];exact HPR.o⟩⟩,by simp;omega⟩;unfold fi;rw[vh,List.length_append,<-HQ.o.1];exact HO9.o
   ·have Pj:lv.drop j= []:=List.drop_eq_nil_of_le (by rw[<-HL.o];omega);have Gk:=HMV.o;rw[Pj]at Gk;obtain⟨e1,e2⟩: []=rest/\m=mf:=by simpa[iC]using Gk.1
    have MO:=Gk.2;rw[<-e1,List.append_nil]at MO;subst MO;subst e2;have hnP:n=P:=by rw[HP.o,HQ.o.1]
    subst hnP;have HROx:=Fh (Qq.o _ HQ.o.2.2.1);have HHx:=Fh HQ.o.2.2.1;have HOx:=Fh HQ.o.2.1;clear Pj Gk e1;go_wp2_with fail;refine HROx.o.mono ?_;rintro e w6⟨rfl,hg⟩;have GP:=Fh (HHx.o.trans hg);have HO6:=Fh (aj HOx.o hg.kept λj hj=>HH.o.Fu (aF HOx.o hj).1);clear hg;go_wp2_with fail;refine(HSR.o _ GP.o).mono ?_;rintro e w7⟨rfl,hg⟩;have Iv:=Fh (GP.o.trans hg);have WQ:=Fh (aj HO6.o hg.kept λj hj=>HH.o.Fu (aF HO6.o hj).1);clear hg;go_wp2_with fail
    try rw[Exit.noGoto_ret]
    go_ret2;exact⟨⟨_,rfl,WQ.o⟩,Iv.o⟩
end
def pF(A:Option Addr)(l:List (Nat×Nat))(W:World):Prop:=∀(i:Nat) (p:Nat×Nat),l[i]? =some p->∃g o,A=some ⟨g,o,none⟩/\W.cell? ⟨g,o+i*2,none⟩=some (.int .i64 (p.1:Int))/\W.cell? ⟨g,o+i*2+1,none⟩=some (.int .i64 (p.2:Int))
theorem pF.below{A:Option Addr}{l:List (Nat×Nat)}{W W':World}(h:pF A l W)(hb:Below W.heap.size W W'):pF A l W':=λi p hp=>by
 obtain⟨g,o,e,h1,h2⟩:=h i p hp;exact⟨g,o,e,(aa.below hb λ_=>False).cell h1 id,(aa.below hb λ_=>False).cell h2 id⟩
theorem MP:∀(l:List (Nat×Nat)) (i:Nat) (p:Nat×Nat),l[i]? =some p->(cW l)[2*i]? =some (.int .i64 (p.1:Int))/\(cW l)[2*i+1]? =some (.int .i64 (p.2:Int))
 | [],i,p,h=>by simp at h
 |q::l,0,p,h=>by
  simp at h;subst h;exact⟨rfl,rfl⟩
 |q::l,i+1,p,h=>by
  have:=MP l i p (by simpa using h);exact this
theorem fi.at_{B:Nat}{W:World}{v:Value}{l:List (Nat×Nat)}(h:fi B W v l):∃A c,v= .slice A l.length c/\pF A l W/\∀a,A=some a->B<=a.block/\a.block<W.heap.size:=by
 obtain⟨A,c,rfl⟩:=aw h;refine⟨A,c,rfl,λi p hp=> ?_,λa e=>aF h (by rw[e];rfl)⟩;have hi:=(List.getElem?_eq_some_iff.1 hp).1;obtain⟨g1,g2⟩:=MP l i p hp;rcases h.2 with⟨e,h0⟩|⟨g,cap,Kb,e,_,hg,_,_,_,ht⟩
 ·omega
 ·injection e with e1;refine⟨g,0,e1,?_,?_⟩
  ·rw[<-ht,List.getElem?_take_of_lt (by omega)]at g1;rw[Nat.zero_add,Nat.mul_comm];simp only [World.cell?,hg];simpa using g1
  ·rw[<-ht,List.getElem?_take_of_lt (by omega)]at g2;rw[Nat.zero_add,Nat.mul_comm];simp only [World.cell?,hg];simpa using g2
section
variable{O:av}{μ:Mm}{w:World}
theorem pG(h:ao O μ w)(a:Nat)(o:Bool)(ha:a<4294967296)(hv:kM a μ=some o):Calls prog 108 #[.pointer (some ⟨O.mb,0,none⟩),.int .i64 (a:Int)] w λe w'=>e= .returned (.bool o)/\MG O w μ w':=by
 obtain⟨n,h1,F6⟩:=Fi hv;obtain⟨e,h2,h3⟩:=Fi F6;have h4:=Fk h3;rw[rP]at h4;have KR:=Fh (pq h n h1);have LH:=Fh (λW (hg:MG O w μ W)=>yp hg.has a e ha h2);have hov:=λW=>uW n e W;rw[h4]at hov;have RX:=Fh hov;have FE:=Fh (MG.refl h);clear h hv F6 h1 h2 h3 h4 hov;go_in;go_wp2_with fail;refine KR.o.mono ?_;rintro e w1⟨rfl,hg⟩;have FA:=Fh (FE.o.trans hg);clear hg;go_wp2_with fail;refine(LH.o _ FA.o).mono ?_;rintro e w2⟨rfl,hg⟩;have FK:=Fh (FA.o.trans hg);clear hg;go_wp2_with fail;refine(RX.o _).mono ?_;rintro e w3⟨rfl,rfl⟩;go_wp2;go_ret;exact⟨rfl,FK.o⟩
theorem vi(h:ao O μ w)(f:Nat)(μ':Mm)(hf:f<21)(IT:f≠16)(hv:bK f μ=some μ'):Calls prog 199 #[.pointer (some ⟨O.mb,0,none⟩),.int .i64 (f:Int)] w λe w'=>e= .returned (.tuple #[])/\MG O w μ' w':=by
 obtain⟨n,h1,h2⟩:=Fi hv;have hn:=aU h1 IT;have HL:=Fh (gj h f n hf h1);have hs:=λW (hg:MG O w μ W)=>bf hg.has f (n+1) μ' hf h2;simp only [show((n+1:Nat):Int)=(n:Int)+1 from rfl]at hs;have HS:=Fh hs;have FE:=Fh (MG.refl h);have r1:IntKind.u64.wrap ((n:Int)+1)=(n:Int)+1:=by rw[IntKind.wrap_u64];omega
 clear h hv h1 h2 hs;go_in;go_wp2_with fail;refine HL.o.mono ?_;rintro e w1⟨rfl,hg⟩;have FA:=Fh (FE.o.trans hg);clear hg;go_wp2_with fail;refine(HS.o _ FA.o).mono ?_;rintro e w2⟨rfl,hg⟩;have FK:=Fh (FA.o.trans hg);clear hg;go_wp2;go_end0;exact⟨rfl,FK.o⟩
end
end Go.Proofs.YtifkphcaelafjaaGreatDoor
namespace Go.FC
theorem xi{m:Mm}{k a:Nat}{l:List Nat}(h:iU m (k+1) a=some l):∃n l',jg a m=some n/\l=a::l'/\iU m k n=some l':=by
 obtain⟨n,h1,h⟩:=Fi h;obtain⟨l',h2,h⟩:=Fi h;exact⟨n,l',h1,(Fk h).symm,h2⟩
end Go.FC
namespace Go.Proofs.YtifkphcaelafjaaGreatDoor
open Tryz
open Go.RowKit Go.Colm Go.FC Go.Maps Go.Shelf Go.Rft
attribute [local go_sem] Oper.semAt_some
section
variable{O:av}{μ:Mm}
structure RiR(O:av)(μ:Mm)(b1:Nat)(A:World):Prop where
 has:ao O μ A
 n1:¬au O b1
 x1:A.cell? ⟨b1,0,none⟩=some (.pointer (some ⟨O.mb,0,none⟩))
theorem Ap(n:Nat)(hn:6<=n)(b1 hd N:Nat)(l:List Nat)(hh:μ.root 13=some hd)(hN:μ.root 15=some N)(hl:iU μ N hd=some l):
  EB Fence.wide n prog 374 #[.pointer (some ⟨b1,0,none⟩)] (λx:Nat=> #[.int .i64 (x:Int)]) (λA C=>MG O A μ C) (λs A=>RiR O μ b1 A) (λpre x=>∃r,pre++x::r=l) (λxs=>xs=l) (λ_=>True):=by
 intro lp J Jx W Ss XQ Uf hY h0;refine callsIn_of_wp func374 rfl trivial ?_ rfl;simp only [ntmps374,List.size_toArray,List.length_cons,List.length_nil,Nat.reduceAdd,Nat.reduceSub,Array.replicate_succ,Array.replicate_zero,List.push_toArray,List.append_toArray,List.nil_append,List.cons_append];have x1:=(Ss _ _ h0).x1;have Lf:=Fh (λm=>(callsIn_wide (n:=m)).2 (BM (Ss _ _ h0).has hd hh));have YS:=Fh (λW m (hg:ao O μ W)=>(callsIn_wide (n:=m)).2 (oq hg N hN));have HJ0:=Fh h0;have VJ:=Fh XQ;have Wk:=Fh Ss;have HY:=Fh hY;have HL:=Fh hl;have hd4:hd<4294967296:=aU hh (by omega);have hN4:N<4294967296:=aU hN (by omega);clear h0 XQ Ss hY Uf hl hh hN
 gi_wp2
 refine⟨trivial,λ_=>by omega,(Lf.o _).mono ?_⟩;rintro e w1⟨rfl,hg⟩;have Y1:=Fh (VJ.o _ _ _ HJ0.o hg);clear hg x1;have x1:=(Wk.o _ _ Y1.o).x1
 gi_wp2
 refine⟨trivial,λ_=>by omega,(YS.o _ _ (Wk.o _ _ Y1.o).has).mono ?_⟩;rintro e w2⟨rfl,hg⟩;have Y8:=Fh (VJ.o _ _ _ Y1.o hg);clear hg x1
 gi_wp2
 gi_loopw [3,8] (λs3 s8 wr=>∃(a i:Nat) (pre l':List Nat),i<=N/\a<4294967296/\s3= .int .i64 (a:Int)/\s8= .int .i64 (i:Int)/\Hid (iU μ (N-i) a=some l')/\Hid (pre++l'=l)/\Hid (J pre wr)) (λ_ s8 _=>N-(intOf s8).toNat)
 case atStart=>exact⟨hd,0,[],l,Nat.zero_le _,hd4,rfl,rfl,HL,Fh rfl,Y8⟩
 case round=>
  obtain⟨a,i,pre,l',hi,I7,rfl,rfl,HC,HP,HJ⟩:=hrel;by_cases FR:i<N
  ·obtain⟨k,hk⟩:∃k,N-i=k+1:=⟨N-i-1,by omega⟩;have hc:=HC.o;rw[hk]at hc;obtain⟨nx,l2,e1,e2,e3⟩:=xi hc;have Ub:decide ((i:Int)<(N:Int))=true:=by simp;omega
   obtain⟨fn,tmps,assign,body,hy,XR⟩:=HY.o pre a wr HJ.o ⟨l2,by rw[<-e2];exact HP.o⟩;have VG:=Fh e1;have XS:Hid (iU μ (N-(i+1)) nx=some l2):=Fh (by rw[show N-(i+1)=k by omega];exact e3);have Mk:Hid ((pre++ [a])++l2=l):=Fh (by rw[List.append_assoc,List.singleton_append,<-e2];exact HP.o);clear e1 e2 e3 hc hk
   gi_wp2
   refine⟨λh=>(by cases h),XR.mono ?_⟩;rintro e W3(⟨rfl,Ug⟩|⟨rfl,PB⟩)
   ·have Nc:=Fh (Wk.o _ _ Ug);have y1:=Nc.o.x1;have Ml:=λm=>(callsIn_wide (n:=m)).2 (hG Nc.o.has a nx I7 VG.o);have Nd:=Fh Ml;have Uh:=Fh Ug;clear Ug Ml
    gi_wp2
    refine⟨trivial,λ_=>by omega,(Nd.o _).mono ?_⟩;rintro e w4⟨rfl,F9⟩;have HJ4:=Fh (VJ.o _ _ _ Uh.o F9);clear F9
    gi_wp2
    go_roundw
    case rel=>exact⟨nx,i+1,_,l2,by omega,jB VG.o,rfl,by go_num,XS,Mk,HJ4⟩
    case measure=>simp[intOf];omega
   ·have Uh:=Fh PB;clear PB
    gi_wp2
    refine bodyPost_ret (results_none rfl _ _ _) rfl ?_;exact⟨⟨_,rfl⟩,.inr ⟨_,trivial,Uh.o⟩⟩
  ·have HE:Hid (pre=l):=Fh (by
    have h1:=HC.o;rw[show N-i=0 by omega]at h1;have h2:=HP.o;rw[<-Fk h1,List.append_nil]at h2;exact h2)
   have Ub:decide ((i:Int)<(N:Int))=false:=by simp;omega
   gi_wp2
   go_end0;exact⟨⟨_,rfl⟩,.inl ⟨pre,HE.o,HJ.o⟩⟩
end
attribute [local go_sem] Oper.semAt_some
section
variable{O:av}{μ:Mm}
theorem Cq(n mb:Nat)(w:World):CallsIn Fence.wide n prog 368 #[.pointer (some ⟨mb,0,none⟩)] w λe w'=>e= .returned (.func (.func 374) #[] #[.pointer (some ⟨w.heap.size,0,none⟩)])/\w'=w.alloc (.cells #[.pointer (some ⟨mb,0,none⟩)] 68):=by
 refine callsIn_of_wp func368 rfl trivial ?_ rfl;simp only [ntmps368,List.size_toArray,List.length_cons,List.length_nil,Nat.reduceAdd,Nat.reduceSub,Array.replicate_succ,Array.replicate_zero,List.push_toArray,List.append_toArray,List.nil_append,List.cons_append]
 gi_wp2
 refine bodyPost_ret (results_tmp rfl _ _ _) rfl ?_;exact⟨by simp,rfl⟩
structure UK(O:av)(μ:Mm)(w0:World)(B b1:Nat)(pre:List Nat)(W:World):Prop where
 mg:MG O w0 μ W
 ge:w0.heap.size<=B/\w0.heap.size<=b1
 x1:Whole W b1 68 #[.pointer (some ⟨O.mb,0,none⟩)]
 x0:∃A n c,n=pre.length/\Whole W B 125 #[.slice A n c]/\bo w0.heap.size W (.slice A n c) pre
theorem UK.kept{w0 A C:World}{B b1:Nat}{pre:List Nat}(h:UK O μ w0 B b1 pre A){S:Nat->Prop}(hg:MG O w0 μ C)(k:aa S A C)(hs:∀j cs t fz,w0.heap.size<=j->A.heap[j]? =some (.cells cs t fz)->¬S j):UK O μ w0 B b1 pre C:=by
 obtain⟨g1,g2⟩:=h.ge;obtain⟨A',n,c,e,hw,ho⟩:=h.x0;refine⟨hg,h.ge,k.whole h.x1 (hs _ _ _ _ g2 h.x1),A',n,c,e,k.whole hw (hs _ _ _ _ g1 hw),aj ho k λj hj=> ?_⟩;rcases ho.2 with⟨e2,_⟩|⟨g,cap,Kb,e2,hb,hh,_⟩
 ·rw[e2]at hj;simp[Value.ownBlock]at hj
 ·rw[e2]at hj;have e3:g=j:=by simpa[Value.ownBlock]using hj
  subst e3;exact hs _ _ _ _ hb hh
theorem UK.step{w0 A C:World}{B b1:Nat}{pre:List Nat}(hw:ao O μ w0)(h:UK O μ w0 B b1 pre A)(k:MG O A μ C):UK O μ w0 B b1 pre C:=
 h.kept (h.mg.trans k) k.kept λj cs t fz hj _=>hw.Fu hj
theorem UK.put{w0 A:World}{B b1:Nat}{pre:List Nat}(hw:ao O μ w0)(h:UK O μ w0 B b1 pre A){l:Nat}{o o':Obj}(hB:w0.heap.size<=l)(hl:A.heap[l]? =some o)(hc:o.isCells=false):UK O μ w0 B b1 pre (A.putObj l o'):=by
 have hk:aa (λk=>k=l) A (A.putObj l o'):=(aa.grown (grownBy_putObj' A l o')).mono λk _ e=>(Fk e).symm;refine h.kept (MG.beside hw h.mg hk λk e=>by rw[e];exact hB) hk λj cs t fz _ hj e=> ?_;subst e;rw[hl]at hj;cases hj;cases hc
theorem xj{w0 A:World}{v:Value}{pre:List Nat}(h:bo w0.heap.size A v pre){l:Nat}{o o':Obj}(hl:A.heap[l]? =some o)(hc:o.isCells=false):bo w0.heap.size (A.putObj l o') v pre:=by
 have hk:aa (λk=>k=l) A (A.putObj l o'):=(aa.grown (grownBy_putObj' A l o')).mono λk _ e=>(Fk e).symm;refine aj h hk λj hj e=> ?_;subst e;rcases h.2 with⟨e2,_⟩|⟨g,cap,Kb,e2,hb,hh,_⟩
 ·rw[e2]at hj;simp[Value.ownBlock]at hj
 ·rw[e2]at hj;have e3:g=j:=by simpa[Value.ownBlock]using hj
  subst e3;rw[hl]at hh;cases hh;cases hc
theorem DS(n:Nat)(hn:12<=n)(w:World)(h:ao O μ w)(l:List Nat)(hv:gU μ=some l)(hl:l.length<=100000):
  CallsIn Fence.wide n prog 361 #[.pointer (some ⟨O.mb,0,none⟩)] w λe w'=>∃v,e= .returned v/\bo w.heap.size w' v l/\MG O w μ w':=by
 obtain⟨hd,h1,F6⟩:=Fi hv;obtain⟨N,h2,h3⟩:=Fi F6;refine callsIn_of_wp_marks func361 rfl trivial ?_ rfl;simp only [ntmps361,List.size_toArray,List.length_cons,List.length_nil,Nat.reduceAdd,Nat.reduceSub,Array.replicate_succ,Array.replicate_zero,List.push_toArray,List.append_toArray,List.nil_append,List.cons_append]
 gi_wp2
 refine⟨trivial,λ_=>by omega,(Cq _ _ _).mono ?_⟩;rintro e w1⟨rfl,FJ⟩
 gi_wp2
 clear FJ;obtain⟨B,hB⟩:=Fp w.heap.size;obtain⟨w2,FL⟩:=Fp ((w.alloc (.cells #[.slice none 0 0] 125)).alloc (.cells #[.pointer (some ⟨O.mb,0,none⟩)] 68));have IU:w2.heap.size=B+1+1:=by rw[FL,hB];simp
 have h0:UK O μ w B (B+1) [] w2:=by
  rw[hB,FL];refine⟨((MG.refl h).alloc _).alloc _,by omega,?_,none,0,0,rfl,?_,World.ownsRow_nil _ _ _ _⟩
  ·have:=Whole.new (w.alloc (.cells #[.slice none 0 0] 125)) 68 #[.pointer (some ⟨O.mb,0,none⟩)];simpa only [World.size_alloc]using this
  ·exact((aa.refl (λ_=>False) _).alloc _).whole (Whole.new w 125 #[.slice none 0 0]) id
 have HH:=Fh h;rw[<-hB,<-FL];have HB:Hid (w.heap.size=B):=Fh hB.symm;have Lb:=Fh IU;obtain⟨i0,hi,G9,G8,G7⟩:=info_parts IN.2.1;have HL:=Fh hl;clear FL hv h hB F6;refine gZ rfl (by omega) (gf:=374) (lb:= #[.pointer (some ⟨B+1,0,none⟩)]) rfl trivial (enters_of func374 (by kernel_rfl) rfl)
  (Ap (n-1) (by omega) (B+1) hd N l h1 h2 h3)
  (λA C k o hg hk ho hc=> ?keeps) (λ_=>rfl)
  (λpre W=>UK O μ w B (B+1) pre W)
  (λe pre W=>False)
  ?hR (λpre A C hA k=>hA.step HH.o k) (λe pre A C hA k=>hA)
  (λpre A k o o' hA hk ho hc=>hA.put HH.o (by have:=HB.o;have:=Lb.o;omega) ho hc) (λe pre A k o o' hA hk ho hc=>hA)
  (λo o' _ _=>h0.kept ((h0.mg.alloc _).alloc _) (((aa.refl (λ_=>False) w2).alloc _).alloc _) λ_ _ _ _ _ _ e=>e.elim)
  (λx=> {tmps:= #[.pointer (some ⟨O.mb,0,none⟩),undef,.slice none 0 0,.pointer (some ⟨B,0,none⟩),.int .i64 (x:Int),.pointer (some ⟨O.mb,0,none⟩),.func (.func 374) #[] #[.pointer (some ⟨B+1,0,none⟩)],.int .i64 (x:Int),undef,undef,undef,undef,undef],defers:= []})
  ?assign ?body ?done ?stop
 case keeps=>
  exact(hg.kept.block k (Array.getElem?_eq_some_iff.1 ho).1 (HH.o.Fu (by have:=HB.o;have:=Lb.o;omega))).trans ho
 case hR=>
  rintro pre A h2;exact⟨h2.mg.has,HH.o.Fu h2.ge.2,h2.x1.cell 0⟩
 case assign=>
  intro k x W K hK
  gi_wp2
  exact hK
 case body=>
  rintro k pre x W hI⟨r,hr⟩;have HI:=Fh hI;obtain⟨A',n',c',Pb,JD,Gq⟩:=hI.x0;have y0:W.cell? ⟨B,0,none⟩=some (.slice A' n' c'):=JD.cell 0;have hlen:n'<=100000:=by
   have h1:=congrArg List.length hr;have h2:=HL.o;rw[List.length_append,List.length_cons]at h1;omega
  have UL:W.ownsRow w.heap.size 3 1 (.slice A' n' c') n' (aO pre):=by rw[Pb];rw[Pb]at Gq;exact Gq
  have HO:=Fh (World.ownsRow.alloc UL (.cells #[.int .i64 (x:Int)] 3));have HO0:=Fh UL;have QV:=Fh JD;have Ue:=Fh Pb;have HC:Hid (∀(j:Nat) (u:Value),[Value.int .i64 (x:Int)][j]? =some u->(W.alloc (.cells #[.int .i64 (x:Int)] 3)).cell? ((⟨W.heap.size,0,none⟩:Addr).add j)=some u):=Fh λj u hj=>by
   rw[Addr.add_lit,Nat.zero_add,Whole.cell (Whole.new W _ _),List.getElem?_toArray];exact hj
  have HWS:Hid (w.heap.size<=(W.alloc (.cells #[.int .i64 (x:Int)] 3)).heap.size):=Fh (by rw[World.size_alloc];exact Nat.le_succ_of_le HI.o.mg.kept.size);clear hI JD Gq UL hr Pb;gi_wp2_with (gi_at_builtin;refine wpListIn_append_own _ rfl _ _ 125 rfl w.heap.size 3 i0 (.int .i64 0) 1 8 underlying125 hi G9 G8 G7 rfl (by decide) (.slice A' n' c') n' (aO pre) rfl HO.o ⟨W.heap.size,0,none⟩ 1 1 [.int .i64 (x:Int)] rfl rfl HC.o (λu hu=>by simp at hu;subst hu;rfl) (by unfold maxLen;omega) (by omega) HWS.o ?_;intro v' w3 Nj FZ _;obtain⟨z1,z2,z3,z4,z5⟩:=Boxed.appended (B:=B) (t:=125) QV.o (by decide) HO0.o HI.o.mg.kept.size (by have:=HB.o;omega) Nj FZ;have VA:=Fh z1;have HZ2:=Fh z2;have SC:=Fh z3;have HZ4:=Fh z4;have Rk:=Fh z5;have FT:=Fh FZ;have y3:w3.cell? ⟨B,0,none⟩=some (.slice A' n' c'):=Whole.cell (cs:= #[.slice A' n' c']) z1 0;have f3:w3.frozen? ⟨B,0,none⟩=false:=Whole.frozen (cs:= #[.slice A' n' c']) z1 0;obtain⟨A3,c3,GM⟩:=aw Nj;subst GM;clear Nj FZ z1 z2 z3 z4 z5);have k5:aa (λk=>w.heap.size<=k) W (w3.setCell ⟨B,0,none⟩ (.slice A3 (n'+1) c3)):=⟨Rk.o.os,Rk.o.tape,Rk.o.output,Rk.o.size,λk hl hn=>Rk.o.block k (by omega)⟩;have QM:=((aa.refl (λ_=>False) W).alloc (.cells #[.int .i64 (x:Int)] 3)).whole HI.o.x1 id;have F7:=(aa.grown FT.o).whole QM (aA HO.o QM (by decide));have Hn:=((aa.refl (λk=>k=B) w3).setCell (p:=⟨B,0,none⟩) (.inl rfl) (.slice A3 (n'+1) c3)).whole F7 (by omega);exact⟨HZ4.o.from _,trivial,MG.beside HH.o HI.o.mg k5 (λk e=>e),HI.o.ge,Hn,A3,n'+1,c3,by rw[List.length_append,<-Ue.o];rfl,HZ2.o,fM (by rw[<-Ue.o];exact SC.o)⟩
 case done=>
  rintro D xs W hD rfl hI hK;obtain⟨A',n',c',Pb,JD,Gq⟩:=hI.x0;have y0:W.cell? ⟨B,0,none⟩=some (.slice A' n' c'):=JD.cell 0;have HO:=Fh Gq;have HI:=Fh hI;clear JD Gq hI Pb
  gi_wp2
  refine⟨by simp,.inl ⟨_,_,rfl,run_takeDeferred hK,?_⟩⟩;exact⟨_,(results_tmp rfl _ _ _).trans rfl,_,rfl,xj HO.o hK rfl,(HI.o.put HH.o (by have:=HB.o;have:=Lb.o;omega) hK rfl).mg⟩
 case stop=>
  rintro D e pre W hD _ hf hK;exact hf.elim
theorem DT{w:World}(h:ao O μ w)(l:List Nat)(hv:gU μ=some l)(hl:l.length<=100000):Calls prog 361 #[.pointer (some ⟨O.mb,0,none⟩)] w λe w'=>∃v,e= .returned v/\bo w.heap.size w' v l/\MG O w μ w':=
 (callsIn_wide (n:=12)).1 (DS 12 (Fm _) w h l hv hl)
end
end Go.Proofs.YtifkphcaelafjaaGreatDoor
namespace Go.Rfk
open Go Go.RowKit
variable{F:Fence}{n:Nat}{P:Program}
def Fa{α:Type}(F:Fence)(n:Nat)(P:Program)(g:Nat)(lb:Array Value)(Lg:α->Array Value)(T Kp:World->World->Prop)(St:World->Prop)(R:List α->World->Prop)(Nx:List α->α->Prop)(S Sp:List α->Prop):Prop:=
 ∀(l:Nat) (J Jx:List α->World->Prop) (W:World),(∀s A,J s A->R s A)->(∀s A C,J s A->T A C->J s C)->(∀s A C,Jx s A->T A C->Jx s C)->
  (∀pre x W1,J pre W1->Nx pre x->YieldAt F (n-1) P l (Lg x) W1 λe W2=>(e= .returned (.bool true)/\J (pre++ [x]) W2/\Kp W1 W2)\/(e= .returned (.bool false)/\Jx (pre++ [x]) W2))->
  J [] W->St W->CallsIn F n P g (#[.func (.yield l) #[] #[]]++lb) W λe W2=>(∃v,e= .returned v)/\((∃xs,S xs/\J xs W2)\/(∃pre,Sp pre/\Jx pre W2))
def Bx{α:Type}(B:Nat)(I:List α->World->Prop):Prop:=∀s A l o o',I s A->B<=l->A.heap[l]? =some o->o.isCells=false->I s (A.putObj l o')
theorem nj{α:Type}{g:Operand}{ps:Array Tmp}{assign body:Code}{Q:Exit->Act->World->Prop}{a:Act}{w:World}
  (hro:F.round=none) (h1:1<=n) {gf:Nat} {lb:Array Value} (hg:a.eval g= .func (.func gf) #[] lb) (hFg:F.fn gf) (eg:∀args w,(callFunc gf args).run P w= .ok (.enter gf args) w)
  {Lg:α->Array Value} {T Kp:World->World->Prop} {St:World->Prop} {R:List α->World->Prop} {Nx:List α->α->Prop} {S Sp:List α->Prop} (Y0:Fa F (n-1) P gf lb Lg T Kp St R Nx S Sp)
  (hT:∀A C k o,T A C->w.heap.size<=k->A.heap[k]? =some o->o.isCells=false->C.heap[k]? =some o) (hKp:∀A C l o1 o2 o3 o4,A.heap[l]? =some o1->o1.isCells=false->C.heap[l]? =some o3->o3.isCells=false->Kp (A.putObj l o2) C->Kp A (C.putObj l o4)) (KC:∀x,(Lg x).size=ps.size)
  (I:List α->World->Prop) (Ix:Code->List α->World->Prop) (hR:∀s A,I s A->R s A) (hI:∀s A C,I s A->T A C->I s C) (hIx:∀c s A C,Ix c s A->T A C->Ix c s C) (Wj:Bx w.heap.size I) (MJ:∀c,Bx w.heap.size (Ix c))
  (h0:∀o o',o.isCells=false->o'.isCells=false->I [] ((w.alloc o).alloc o')) (hSt:∀o o',o.isCells=false->o'.isCells=false->St ((w.alloc o).alloc o')) (a₁:α->Act)
  (Ox:∀(l:Nat) (x:α) (W:World) (K:Act->World->Prop),K (a₁ x) W->
   assign.wpIn (F.inRound l) (n-1-1) P (Exit.then K (λ_ _ _=>False)) {tmps:=(ps.zip (Lg x)).foldl (λt (p,v)=>t.setIfInBounds p v) a.tmps,defers:= []} W)
  (Py:∀(l:Nat) (pre:List α) (x:α) (W:World),I pre W->Nx pre x->body.wpIn (F.inRound l) (n-1-1) P (ownPostG w.heap.size Kp I Ix (pre++ [x]) W) (a₁ x) W)
  (Pz:∀(D:Nat) (xs:List α) (W:World),w.heap.size<=D->S xs->I xs W->W.heap[D]? =some (.deferred (some []))->Q .normal {a with defers:= {target:= .collected D,args:= #[]}::a.defers} W)
  (PA:∀(D:Nat) (c:Code) (pre:List α) (W:World),w.heap.size<=D->Sp pre->Ix c pre W->W.heap[D]? =some (.deferred (some []))->c.wpIn F n P Q {a with defers:= {target:= .collected D,args:= #[]}::a.defers} W):
  (Code.rangeFunc g ps assign body).wpIn F n P Q a w:=by
 refine wpIn_rangeFunc ?_;intro fn hfn;rw[hro];obtain⟨B,hB⟩:=Fp w.heap.size;obtain⟨rc,KT⟩:∃rc:LoopState->Option Code->Loop,rc=λst pe=> {state:=st,pending:=pe,fn,tmps:=a.tmps,params:=ps,assign,body,defers:=w.heap.size}:=⟨_,rfl⟩;obtain⟨W1,KU⟩:=Fp ((w.alloc (.deferred (some []))).alloc (.loop (rc .ready none)));have r1:W1.heap[B+1]? =some (.loop (rc .ready none)):=by
  have h:=World.alloc_heap_new (w.alloc (.deferred (some []))) (.loop (rc .ready none));rw[World.size_alloc]at h;rw[KU,hB];exact h
 have d1:W1.heap[B]? =some (.deferred (some [])):=by
  rw[KU,hB];exact(Below.heap_alloc _ _ _ (by simp)).trans (World.alloc_heap_new w _)
 have i1:I [] W1:=by rw[KU];exact h0 _ _ rfl rfl
 have st1:St W1:=by rw[KU];exact hSt _ _ rfl rfl
 refine⟨w.heap.size+1,[{target:= .collected w.heap.size,args:= #[]}],W1, {target:= .fn (.func gf) lb,args:= #[.func (.yield (w.heap.size+1)) #[] #[]]},W1,gf, #[.func (.yield (w.heap.size+1)) #[] #[]]++lb,W1,?enter,?res,?leads,?inv,λ_=>h1,?rest⟩
 case enter=>rw[KU,KT];exact run_enterLoop_outer _ _ _ _ _
 case res=>
  simp only [resolve,hg];simp[go_sem]
 case leads=>
  intro f2 IT;simp[Target.leads]at IT;subst IT;exact hFg
 case inv=>simp[invoke,go_sem,eg]
 case rest=>
  rw[<-hB]at hT Wj MJ Pz PA Py⊢;refine(Y0 (B+1) (λs A=>I s A/\A.heap[B+1]? =some (.loop (rc .ready none))/\A.heap[B]? =some (.deferred (some []))) (λs A=>∃c,Ix c s A/\A.heap[B+1]? =some (.loop (rc .done (some c)))/\A.heap[B]? =some (.deferred (some [])))
   W1 (λs A h=>hR s A h.1) (λs A C h t=>⟨hI s A C h.1 t,hT A C _ _ t (by omega) h.2.1 rfl,hT A C _ _ t (Fm _) h.2.2 rfl⟩) (λs A C h t=>by
    obtain⟨c,u1,u2,u3⟩:=h;exact⟨c,hIx c s A C u1 t,hT A C _ _ t (by omega) u2 rfl,hT A C _ _ t (Fm _) u3 rfl⟩) ?round ⟨i1,r1,d1⟩ st1).mono ?after
  case round=>
   rintro pre x W⟨hi,hl,hd⟩ LU;have FR:B+1<W.heap.size:=(Array.getElem?_eq_some_iff.1 hl).1;have hy:=run_yield (P:=P) (args:=Lg x) hl (by rw[KT];exact KC x);rw[KT]at hy;refine⟨fn,_,assign,body,hy,roundIn_of_wpIn hfn (Ox _ x W _ ⟨_,run_beginRound hl (by rw[KT]),?_⟩)⟩;obtain⟨Wb,VI⟩:∃Wb,Wb=W.putObj (B+1) (.loop {rc .ready none with state:= .busy}):=⟨_,rfl⟩;have lb2:Wb.heap[B+1]? =some (.loop {rc .ready none with state:= .busy}):=by rw[VI];exact World.putObj_heap_same FR
   have db2:Wb.heap[B]? =some (.deferred (some [])):=by rw[VI];exact(World.putObj_heap_other (by omega)).trans hd
   have ib2:I pre Wb:=by rw[VI];exact Wj _ _ _ _ _ hi (by omega) hl rfl
   rw[<-VI];refine wpIn_mono (Py _ pre x _ ib2 LU) ?_;have fin:∀(j:Option Code) (W3:World),KeepsFrom B Wb W3->W3.heap[B+1]? =some (.loop {rc .ready none with state:= .busy})/\(Instr.endRound (B+1) j).run P W3= .ok (.bool j.isNone) (W3.putObj (B+1) (.loop (rc (if j.isNone then .ready else .done) j)))/\
     (W3.putObj (B+1) (.loop (rc (if j.isNone then .ready else .done) j))).heap[B+1]? =some (.loop (rc (if j.isNone then .ready else .done) j))/\(W3.putObj (B+1) (.loop (rc (if j.isNone then .ready else .done) j))).heap[B]? =some (.deferred (some [])):=λj W3 k3=>by
    have l3:=k3.same _ _ (by omega) lb2 rfl;have he:=run_endRound (P:=P) j l3;rw[KT]at he⊢;rw[KT]at l3;exact⟨l3,he,World.putObj_heap_same (Array.getElem?_eq_some_iff.1 l3).1,(World.putObj_heap_other (by omega)).trans (k3.same _ _ (Fm _) db2 rfl)⟩
   rintro e a3 W3 hp;cases e with
   |normal=>
    obtain⟨k3,kp,i3⟩:=hp;obtain⟨l3,he,l4,d4⟩:=fin none W3 k3;exact⟨_,_,he,.inl ⟨rfl,⟨Wj _ _ _ _ _ i3 (by omega) l3 rfl,l4,d4⟩,hKp _ _ _ _ _ _ _ hl rfl l3 rfl (by rw[<-VI];exact kp)⟩⟩
   |ret=>
    obtain⟨k3,i3⟩:=hp;obtain⟨l3,he,l4,d4⟩:=fin (some .ret) W3 k3;exact⟨_,_,he,.inr ⟨rfl,.ret,MJ _ _ _ _ _ _ i3 (by omega) l3 rfl,l4,d4⟩⟩
   |exit id=>
    obtain⟨k3,i3⟩:=hp;obtain⟨l3,he,l4,d4⟩:=fin (some (.exit id)) W3 k3;exact⟨_,_,he,.inr ⟨rfl,.exit id,MJ _ _ _ _ _ _ i3 (by omega) l3 rfl,l4,d4⟩⟩
   |goto t=>
    obtain⟨k3,i3⟩:=hp;obtain⟨l3,he,l4,d4⟩:=fin (some (.goto t)) W3 k3;exact⟨_,_,he,.inr ⟨rfl,.goto t,MJ _ _ _ _ _ _ i3 (by omega) l3 rfl,l4,d4⟩⟩
   |panic ch=>exact hp.elim
   |outgrown=>exact hp.elim
  case after=>
   rintro e W2⟨⟨v,rfl⟩,(⟨xs,hS,hi,hl,hd⟩|⟨pre,hSp,c,hi,hl,hd⟩)⟩
   ·have he:=run_endLoop (P:=P) hl (by rw[KT];simp);rw[KT]at he;exact⟨none,_,he,Pz _ xs _ (Fm _) hS (Wj _ _ _ _ _ hi (by omega) hl rfl) ((World.putObj_heap_other (by omega)).trans hd)⟩
   ·have he:=run_endLoop (P:=P) hl (by rw[KT];simp);rw[KT]at he;exact⟨some c,_,he,PA _ c pre _ (Fm _) hSp (MJ c _ _ _ _ _ hi (by omega) hl rfl) ((World.putObj_heap_other (by omega)).trans hd)⟩
end Go.Rfk
namespace Go.FC
def dh(m:Mm):Nat->Nat->Option (List (Nat×List UInt8))
 |0,_=>none
 |k+1,a=>if a=0 then some []else(fc a m).bind λs=>(im a 4 m).bind λu=>(dh m k u).bind λl=>some ((a,s)::l)
theorem vj{m:Mm}:∀ {k a:Nat} {l:List (List UInt8)},YH m k a=some l->∃ps,dh m k a=some ps/\ps.map Prod.snd=l
 |0,a,l,h=>by simp[YH]at h
 |k+1,a,l,h=>by
  rw[YH]at h;rw[dh];by_cases h0:a=0
  ·rw[if_pos h0]at h⊢;obtain rfl:=Fk h;exact⟨[],rfl,rfl⟩
  ·rw[if_neg h0]at h⊢;obtain⟨s,h1,h⟩:=Fi h;obtain⟨u,h2,h⟩:=Fi h;obtain⟨l',h3,h⟩:=Fi h;obtain rfl:=Fk h;obtain⟨ps,h4,h5⟩:=vj h3;rw[h1,h2,Fj,Fj,h4];exact⟨_,rfl,by simp[h5]⟩
theorem pH{m:Mm}{k a:Nat}{l:List (Nat×List UInt8)}(h:dh m k a=some l)(h0:a≠0):∃k' s u l',k=k'+1/\fc a m=some s/\im a 4 m=some u/\l=(a,s)::l'/\dh m k' u=some l':=by
 cases k with
 |zero=>simp[dh]at h
 |succ k=>
  rw[dh,if_neg h0]at h;obtain⟨s,h1,h⟩:=Fi h;obtain⟨u,h2,h⟩:=Fi h;obtain⟨l',h3,h⟩:=Fi h;exact⟨k,s,u,l',rfl,h1,h2,(Fk h).symm,h3⟩
theorem pI{m:Mm}:∀ {k a:Nat} {l:List (Nat×List UInt8)},dh m k a=some l->dh m (k+1) a=some l
 |0,a,l,h=>by simp[dh]at h
 |k+1,a,l,h=>by
  by_cases h0:a=0
  ·subst h0;rw[dh,if_pos rfl]at h⊢;exact h
  ·obtain⟨k',s,u,l',e,h1,h2,h3,h4⟩:=pH h h0;obtain rfl:k=k':=by omega
   rw[dh,if_neg h0,h1,h2,Fj,Fj,pI h4,h3];rfl
theorem xk{m:Mm}{k:Nat}{l:List (Nat×List UInt8)}(h:dh m k 0=some l):l= []:=by
 cases k with
 |zero=>simp[dh]at h
 |succ k=>
  rw[dh,if_pos rfl]at h;exact(Fk h).symm
end Go.FC
namespace Go.Proofs.YtifkphcaelafjaaGreatDoor
open Tryz
open Go.RowKit Go.Colm Go.FC Go.Maps Go.Shelf Go.Rfk
attribute [local go_sem] Oper.semAt_some
section
variable{O:av}{μ:Mm}
def hQ(O:av)(bx a:Nat)(W:World):Prop:=Whole W bx 150 #[.pointer (some ⟨O.mb,0,none⟩),.int .i64 (a:Int)]
theorem EI{w:World}(h:ao O μ w)(a u:Nat)(ha:a<4294967296)(hv:im a 4 μ=some u):Calls prog 366 #[.agg #[.pointer (some ⟨O.mb,0,none⟩),.int .i64 (a:Int)]] w λe w'=>e= .returned (.int .i64 (u:Int))/\MG O w μ w':=by
 obtain⟨w0,Fx⟩:=Fp (w.alloc (.cells #[.pointer (some ⟨O.mb,0,none⟩),.int .i64 (a:Int)] 150));have GK:MG O w μ w0:=by rw[Fx];exact(MG.refl h).alloc _
 have Gd:Whole w0 w.heap.size 150 #[.pointer (some ⟨O.mb,0,none⟩),.int .i64 (a:Int)]:=by rw[Fx];exact Whole.new w _ _
 have x0:w0.cell? ⟨w.heap.size,0,none⟩=some (.pointer (some ⟨O.mb,0,none⟩)):=Gd.cell 0;have x1:w0.cell? ⟨w.heap.size,1,none⟩=some (.int .i64 (a:Int)):=Gd.cell 1;have WI:u<4294967296:=jx (W:=4) hv (by omega) (by decide);have HL:=Fh (eF GK.has a 4 u ha (by omega) hv);have FE:=Fh GK;have r1:IntKind.i64.wrap (u:Int)=(u:Int):=by rw[IntKind.wrap_i64];omega
 clear h GK Gd hv;go_in;go_upto_region 1 with fail;rw[<-Fx];clear Fx;go_wp2_with fail;refine HL.o.mono ?_;rintro e w1⟨rfl,hg⟩;have FA:=Fh (FE.o.trans hg);clear hg;go_wp2;go_ret;exact⟨rfl,FA.o⟩
def EaT(O:av)(μ:Mm)(bx:Nat)(A C:World):Prop:=ao O μ C/\aa (λk=>au O k\/k=bx) A C/\(∃a,hQ O bx a A)/\∃a,hQ O bx a C
theorem Aq(n:Nat)(hn:8<=n)(bx a0 k0:Nat)(l:List (Nat×List UInt8))(G6:a0<4294967296)(hl:dh μ k0 a0=some l):
  Fa Fence.wide n prog 365 #[.pointer (some ⟨bx,0,none⟩)] (λx:Nat×List UInt8=> #[.int .i64 (x.1:Int),.string ⟨x.2.toArray⟩]) (EaT O μ bx) (λA C=>∀a,hQ O bx a A->hQ O bx a C) (λW=>hQ O bx a0 W) (λs A=>ao O μ A/\¬au O bx) (λpre x=>∃r,pre++x::r=l) (λxs=>xs=l) (λ_=>True):=by
 intro lp J Jx W Ss XQ Uf hY h0 Hz;refine callsIn_of_wp func365 rfl trivial ?_ rfl;simp only [ntmps365,List.size_toArray,List.length_cons,List.length_nil,Nat.reduceAdd,Nat.reduceSub,Array.replicate_succ,Array.replicate_zero,List.push_toArray,List.append_toArray,List.nil_append,List.cons_append];have HJ0:=Fh h0;have VJ:=Fh XQ;have Wk:=Fh Ss;have HY:=Fh hY;have HL:=Fh hl;have LG:=Fh Hz;clear h0 XQ Ss hY Uf hl Hz
 gi_wp2
 have HMS:Hid (∀a W,hQ O bx a W->(match W.cell? ⟨bx,1,none⟩with|some (.int _ m)=>m.toNat|_=>0)=a):=Fh λa W h=>by
  have h1:W.cell? ⟨bx,1,none⟩=some (.int .i64 (a:Int)):=Whole.cell h 1;rw[h1];exact Int.toNat_natCast a
 gi_loopw [3,4] (λ_ _ wr=>∃(a:Nat) (pre l':List (Nat×List UInt8)),a<4294967296/\Hid (hQ O bx a wr)/\Hid (dh μ k0 a=some l')/\Hid (pre++l'=l)/\Hid (J pre wr)) (λ_ _ wr=>((dh μ k0 (match wr.cell? ⟨bx,1,none⟩with|some (.int _ m)=>m.toNat|_=>0)).getD []).length)
 case atStart=>exact⟨a0,[],l,G6,LG,HL,Fh rfl,HJ0⟩
 case round=>
  obtain⟨a,pre,l',I7,HE,HC,HP,HJ⟩:=hrel;have x0:wr.cell? ⟨bx,0,none⟩=some (.pointer (some ⟨O.mb,0,none⟩)):=Whole.cell HE.o 0;have x1:wr.cell? ⟨bx,1,none⟩=some (.int .i64 (a:Int)):=Whole.cell HE.o 1;by_cases h0:a=0
  ·have HEE:Hid (pre=l):=Fh (by have h1:=HC.o;rw[h0]at h1;have h2:=HP.o;rw[xk h1,List.append_nil]at h2;exact h2);have c0:((a:Int) !=0)=false:=by rw[h0];rfl
   clear h0
   gi_wp2
   go_end0;exact⟨⟨_,rfl⟩,.inl ⟨pre,HEE.o,HJ.o⟩⟩
  ·have c0:((a:Int) !=0)=true:=by rw[bne_iff_ne];omega
   obtain⟨k',s,u,l2,ek,e1,e2,e3,e4⟩:=pH HC.o h0;have Mj:Hid (dh μ k0 u=some l2):=Fh (by rw[ek];exact pI e4);have Mk:Hid ((pre++ [(a,s)])++l2=l):=Fh (by rw[List.append_assoc,List.singleton_append,<-e3];exact HP.o);have Ke:Hid (∃r,pre++(a,s)::r=l):=Fh ⟨l2,by rw[<-e3];exact HP.o⟩;have RS:=Fh (λm=>(callsIn_wide (n:=m)).2 (mZ (Wk.o _ _ HJ.o).1 a s I7 e1));have Pa:=Fh (λW m (hg:ao O μ W)=>(callsIn_wide (n:=m)).2 (EI hg a u I7 e2));have WI:u<4294967296:=jx (W:=4) e2 (by omega) (by decide);have VD:=Fh (Wk.o _ _ HJ.o).2;have HM:Hid (((dh μ k0 u).getD []).length<((dh μ k0 a).getD []).length):=Fh (by rw[Mj.o,HC.o,e3];simp);clear ek e1 e2 e3 e4 h0
   gi_wp2
   refine⟨trivial,λ_=>by omega,(RS.o _).mono ?_⟩;rintro e w2⟨rfl,hg⟩;have Pu:Hid (hQ O bx a w2):=Fh (hg.kept.whole HE.o VD.o);have Y8:=Fh (VJ.o _ _ _ HJ.o ⟨hg.has,hg.kept.mono λ_ _ h=> .inl h,⟨a,HE.o⟩,a,Pu.o⟩);clear hg x0 x1;have x0:w2.cell? ⟨bx,0,none⟩=some (.pointer (some ⟨O.mb,0,none⟩)):=Whole.cell Pu.o 0;have x1:w2.cell? ⟨bx,1,none⟩=some (.int .i64 (a:Int)):=Whole.cell Pu.o 1;obtain⟨fn,tmps,assign,body,hy,XR⟩:=HY.o pre (a,s) w2 Y8.o Ke.o;dsimp only at hy
   gi_wp2
   refine⟨λh=>(by cases h),XR.mono ?_⟩;rintro e W3(⟨rfl,Ug,hkp⟩|⟨rfl,PB⟩)
   ·have XS:=Fh (hkp a Pu.o);have Uh:=Fh Ug;have HUPx:=Fh (λm=>Pa.o _ m (Wk.o _ _ Ug).1);clear Ug hkp x0 x1 hy;have x0:W3.cell? ⟨bx,0,none⟩=some (.pointer (some ⟨O.mb,0,none⟩)):=Whole.cell XS.o 0;have x1:W3.cell? ⟨bx,1,none⟩=some (.int .i64 (a:Int)):=Whole.cell XS.o 1
    gi_wp2
    refine⟨trivial,λ_=>by omega,(HUPx.o _).mono ?_⟩;rintro e w4⟨rfl,F9⟩;have XL:Hid (hQ O bx a w4):=Fh (F9.kept.whole XS.o VD.o);have HJ4:=Fh (VJ.o _ _ _ Uh.o ⟨F9.has,F9.kept.mono λ_ _ h=> .inl h,⟨a,XS.o⟩,a,XL.o⟩);have HH4:=Fh F9.has;clear F9 x0 x1;have x1:w4.cell? ⟨bx,1,none⟩=some (.int .i64 (a:Int)):=Whole.cell XL.o 1;have f1:w4.frozen? ⟨bx,1,none⟩=false:=Whole.frozen XL.o 1;have YN:Hid (hQ O bx u (w4.setCell ⟨bx,1,none⟩ (.int .i64 (u:Int)))):=Fh (Whole.put XL.o 1 (.int .i64 (u:Int)));have HJ5:Hid (J (pre++ [(a,s)]) (w4.setCell ⟨bx,1,none⟩ (.int .i64 (u:Int)))):=Fh (VJ.o _ _ _ HJ4.o ⟨HH4.o.kept ((aa.refl (λk=>k=bx) w4).setCell (p:=⟨bx,1,none⟩) (.inl rfl) _) (λk hk e=>HH4.o.other XL.o (by decide) (by decide) (by decide) (by decide) (by simp) (by rw[<-e];exact hk)),((aa.refl (λk=>au O k\/k=bx) w4).setCell (p:=⟨bx,1,none⟩) (.inl (.inr rfl)) _),⟨a,XL.o⟩,u,YN.o⟩)
    gi_wp2
    go_roundw
    case rel=>exact⟨u,_,l2,WI,YN,Mj,Mk,HJ5⟩
    case measure=>
     rw[HMS.o u _ YN.o,HMS.o a _ HE.o];exact HM.o
   ·have Uh:=Fh PB;clear PB
    gi_wp2
    refine bodyPost_ret (results_none rfl _ _ _) rfl ?_;exact⟨⟨_,rfl⟩,.inr ⟨_,trivial,Uh.o⟩⟩
end
open Go.Fy
section
variable{O:av}{μ:Mm}
theorem EJ{w:World}(h:ao O μ w)(a:Nat)(ha:a<4294967296)(hv:(if a=0 then some []else fc a μ).isSome=true):Calls prog 354 #[.pointer (some ⟨O.mb,0,none⟩),.int .i64 (a:Int)] w λe w'=>e= .returned (.int .i64 0)/\MG O w μ w':=by
 have HC:=Fh (aD h);have FE:=Fh (MG.refl h);have G5:=h.cf;have z:¬((μ.Fq:Int)=0):=by omega
 have zz:¬(μ.Fq=0):=by omega
 by_cases h0:a=0
 ·have c0:((a:Int)==0)=true:=by rw[h0];rfl
  clear h hv h0 G5;go_in;go_wp2_with fail;refine HC.o.mono ?_;rintro e w1⟨rfl,hb⟩;have FA:=Fh (FE.o.below hb);clear hb;go_wp2;go_ret;exact⟨rfl,FA.o⟩
 ·have c0:((a:Int)==0)=false:=by rw[Fo];omega
  rw[if_neg h0]at hv;obtain⟨s,hs⟩:=Option.isSome_iff_exists.1 hv;have HL:=Fh (mZ h a s ha hs);clear h hv h0 G5 hs;go_in;go_wp2_with fail;refine HL.o.mono ?_;rintro e w1⟨rfl,hg⟩;have FA:=Fh (FE.o.trans hg);clear hg;go_wp2;go_ret;exact⟨rfl,FA.o⟩
theorem Cr(n mb a:Nat)(w:World):CallsIn Fence.wide n prog 355 #[.agg #[.pointer (some ⟨mb,0,none⟩),.int .i64 (a:Int)]] w λe w'=>e= .returned (.func (.func 365) #[] #[.pointer (some ⟨w.heap.size,0,none⟩)])/\w'=w.alloc (.cells #[.pointer (some ⟨mb,0,none⟩),.int .i64 (a:Int)] 150):=by
 refine callsIn_of_wp func355 rfl trivial ?_ rfl;simp only [ntmps355,List.size_toArray,List.length_cons,List.length_nil,Nat.reduceAdd,Nat.reduceSub,Array.replicate_succ,Array.replicate_zero,List.push_toArray,List.append_toArray,List.nil_append,List.cons_append]
 gi_wp2
 refine bodyPost_ret (results_tmp rfl _ _ _) rfl ?_;exact⟨by simp,rfl⟩
structure UM(O:av)(μ:Mm)(w0:World)(B bx:Nat)(pre:List (Nat×List UInt8))(W:World):Prop where
 mg:MG O w0 μ W
 ge:w0.heap.size<=B/\w0.heap.size<=bx/\B≠bx
 xb:∃a,hQ O bx a W
 x0:∃A n c,n=pre.length/\Whole W B 80 #[.slice A n c]/\W.ownsRow w0.heap.size 9 1 (.slice A n c) n (fN (pre.map Prod.snd))
theorem UM.kept{w0 A C:World}{B bx:Nat}{pre:List (Nat×List UInt8)}(h:UM O μ w0 B bx pre A){S:Nat->Prop}(hg:MG O w0 μ C)(k:aa S A C)(hx:∃a,hQ O bx a C)(hs:∀j cs t fz,w0.heap.size<=j->A.heap[j]? =some (.cells cs t fz)->S j->j=bx):UM O μ w0 B bx pre C:=by
 obtain⟨g1,g2,g3⟩:=h.ge;obtain⟨a,hxa⟩:=h.xb;obtain⟨A',n,c,e,hw,ho⟩:=h.x0;refine⟨hg,h.ge,hx,A',n,c,e,k.whole hw (λe=>g3 (hs _ _ _ _ g1 hw e)),aj ho k λj hj hS=> ?_⟩;rcases ho.2 with⟨e2,_⟩|⟨g,cap,Kb,e2,hb,hh,_⟩
 ·rw[e2]at hj;simp[Value.ownBlock]at hj
 ·rw[e2]at hj;have e3:g=j:=by simpa[Value.ownBlock]using hj
  subst e3;have e4:=hs _ _ _ _ hb hh hS;subst e4;unfold hQ Whole at hxa;rw[hxa]at hh;injection hh with h1;injection h1 with _ h2 _;exact absurd h2 (by decide)
theorem UM.step{w0 A C:World}{B bx:Nat}{pre:List (Nat×List UInt8)}(hw:ao O μ w0)(h:UM O μ w0 B bx pre A)(k:EaT O μ bx A C):UM O μ w0 B bx pre C:=by
 obtain⟨k1,k2,k3,hx⟩:=k;refine h.kept ⟨k1,⟨k2.os.trans h.mg.kept.os,k2.tape.trans h.mg.kept.tape,k2.output.trans h.mg.kept.output,Nat.le_trans h.mg.kept.size k2.size,λj hj hn=>(k2.block j (Nat.lt_of_lt_of_le hj h.mg.kept.size) (λe=>by
  rcases e with e|e
  ·exact hn e
  ·have:=h.ge.2.1;omega)).trans (h.mg.kept.block j hj hn)⟩⟩ k2 hx λj cs t fz hj _ e=> ?_
 rcases e with e|e
 ·exact absurd e (hw.Fu hj)
 ·exact e
theorem UM.put{w0 A:World}{B bx:Nat}{pre:List (Nat×List UInt8)}(hw:ao O μ w0)(h:UM O μ w0 B bx pre A){l:Nat}{o o':Obj}(hB:w0.heap.size<=l)(hl:A.heap[l]? =some o)(hc:o.isCells=false):UM O μ w0 B bx pre (A.putObj l o'):=by
 have hk:aa (λk=>k=l) A (A.putObj l o'):=(aa.grown (grownBy_putObj' A l o')).mono λk _ e=>(Fk e).symm;have hne:∀j cs t fz,A.heap[j]? =some (.cells cs t fz)->j≠l:=λj cs t fz hj e=>by
  subst e;rw[hl]at hj;cases hj;cases hc
 obtain⟨a,hxa⟩:=h.xb;exact h.kept (MG.beside hw h.mg hk λk e=>by rw[e];exact hB) hk ⟨a,hk.whole hxa (hne _ _ _ _ hxa)⟩ λj cs t fz _ hj e=>absurd e (hne _ _ _ _ hj)
end
end Go.Proofs.YtifkphcaelafjaaGreatDoor
