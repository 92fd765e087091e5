/-
  Lemmas on the way to the row. No condition beyond their own.
-/
import Derived.Test.YtifkphcaelafjaaGreatDoorQ08
import Derived.Test.YtifkphcaelafjaaGreatDoorQ22
set_option maxHeartbeats 25600000
set_option maxRecDepth 100000
set_option linter.unusedVariables false
set_option linter.unusedSimpArgs false
namespace Go.Proofs.YtifkphcaelafjaaGreatDoor
open Tryz
open Go.RowKit Go.Colm Go.FC Go.Maps Go.FP Go.Fy Go.Fz
theorem tf{w:World}{rb:Nat}{T:TypeId}{c0 c1 c2 c3 c4 c5 c6 c7 c8 c9 KN Kr c12 c13:Value}(h:Whole w rb T #[c0,c1,c2,c3,c4,c5,c6,c7,c8,c9,KN,Kr,c12,c13])(x0 x1 x2 x3 x4 x5 x6 x7 x8 x9 IQ I2 x12 x13:Value):Whole ((((((((((((((w.setCell ⟨rb,0,none⟩ x0).setCell ⟨rb,1,none⟩ x1).setCell ⟨rb,2,none⟩ x2).setCell ⟨rb,3,none⟩ x3).setCell ⟨rb,4,none⟩ x4).setCell ⟨rb,5,none⟩ x5).setCell ⟨rb,6,none⟩ x6).setCell ⟨rb,7,none⟩ x7).setCell ⟨rb,8,none⟩ x8).setCell ⟨rb,9,none⟩ x9).setCell ⟨rb,10,none⟩ IQ).setCell ⟨rb,11,none⟩ I2).setCell ⟨rb,12,none⟩ x12).setCell ⟨rb,13,none⟩ x13) rb T #[x0,x1,x2,x3,x4,x5,x6,x7,x8,x9,IQ,I2,x12,x13]:=by
 have k:=(((((((((((((h.put 0 x0).put 1 x1).put 2 x2).put 3 x3).put 4 x4).put 5 x5).put 6 x6).put 7 x7).put 8 x8).put 9 x9).put 10 IQ).put 11 I2).put 12 x12).put 13 x13;simp only [List.setIfInBounds_toArray,List.set_cons_zero,List.set_cons_succ]at k;exact k
theorem wW(w:World)(rb:Nat)(x0 x1 x2 x3 x4 x5 x6 x7 x8 x9 IQ I2 x12 x13:Value):aa (λk=>k=rb) w ((((((((((((((w.setCell ⟨rb,0,none⟩ x0).setCell ⟨rb,1,none⟩ x1).setCell ⟨rb,2,none⟩ x2).setCell ⟨rb,3,none⟩ x3).setCell ⟨rb,4,none⟩ x4).setCell ⟨rb,5,none⟩ x5).setCell ⟨rb,6,none⟩ x6).setCell ⟨rb,7,none⟩ x7).setCell ⟨rb,8,none⟩ x8).setCell ⟨rb,9,none⟩ x9).setCell ⟨rb,10,none⟩ IQ).setCell ⟨rb,11,none⟩ I2).setCell ⟨rb,12,none⟩ x12).setCell ⟨rb,13,none⟩ x13):=
 (((((((((((((((aa.refl (λk=>k=rb) w).setCell (.inl rfl) _).setCell (.inl rfl) _).setCell (.inl rfl) _).setCell (.inl rfl) _).setCell (.inl rfl) _).setCell (.inl rfl) _).setCell (.inl rfl) _).setCell (.inl rfl) _).setCell (.inl rfl) _).setCell (.inl rfl) _).setCell (.inl rfl) _).setCell (.inl rfl) _).setCell (.inl rfl) _).setCell (.inl rfl) _)
theorem mj{w:World}{rb:Nat}{T:TypeId}{c0 c1 c2 c3 c4 c5 c6 c7 c8 c9 KN Kr c12 c13:Value}(h:Whole w rb T #[c0,c1,c2,c3,c4,c5,c6,c7,c8,c9,KN,Kr,c12,c13]):w.cell? ⟨rb,0,none⟩=some c0/\w.cell? ⟨rb,1,none⟩=some c1/\w.cell? ⟨rb,2,none⟩=some c2/\w.cell? ⟨rb,3,none⟩=some c3/\w.cell? ⟨rb,4,none⟩=some c4/\w.cell? ⟨rb,5,none⟩=some c5/\w.cell? ⟨rb,6,none⟩=some c6/\w.cell? ⟨rb,7,none⟩=some c7/\w.cell? ⟨rb,8,none⟩=some c8/\w.cell? ⟨rb,9,none⟩=some c9/\w.cell? ⟨rb,10,none⟩=some KN/\w.cell? ⟨rb,11,none⟩=some Kr/\w.cell? ⟨rb,12,none⟩=some c12/\w.cell? ⟨rb,13,none⟩=some c13:=
 ⟨h.cell 0,h.cell 1,h.cell 2,h.cell 3,h.cell 4,h.cell 5,h.cell 6,h.cell 7,h.cell 8,h.cell 9,h.cell 10,h.cell 11,h.cell 12,h.cell 13⟩
theorem uR{w:World}{rb:Nat}{T:TypeId}{cs:Array Value}(h:Whole w rb T cs):w.frozen? ⟨rb,0,none⟩=false/\w.frozen? ⟨rb,1,none⟩=false/\w.frozen? ⟨rb,2,none⟩=false/\w.frozen? ⟨rb,3,none⟩=false/\w.frozen? ⟨rb,4,none⟩=false/\w.frozen? ⟨rb,5,none⟩=false/\w.frozen? ⟨rb,6,none⟩=false/\w.frozen? ⟨rb,7,none⟩=false/\w.frozen? ⟨rb,8,none⟩=false/\w.frozen? ⟨rb,9,none⟩=false/\w.frozen? ⟨rb,10,none⟩=false/\w.frozen? ⟨rb,11,none⟩=false/\w.frozen? ⟨rb,12,none⟩=false/\w.frozen? ⟨rb,13,none⟩=false:=
 ⟨h.frozen 0,h.frozen 1,h.frozen 2,h.frozen 3,h.frozen 4,h.frozen 5,h.frozen 6,h.frozen 7,h.frozen 8,h.frozen 9,h.frozen 10,h.frozen 11,h.frozen 12,h.frozen 13⟩
def JV(mb a:Nat)(b:Bk):Array Value:= #[.int .i64 (b.tag:Int),.int .i64 (b.Ft:Int),.bool (decide (b.used=1)),.int .i64 (b.label:Int),.int .u32 (b.name:Int),.int .u32 (b.next:Int),.int .u32 (b.prev:Int),.int .u32 (b.refs:Int),.int .u64 (b.FB:Int),.int .u16 (b.typ:Int),.int .i64 (b.size:Int),.int .u32 (b.hash:Int),.pointer (some ⟨mb,0,none⟩),.int .i64 (a:Int)]
section
variable{O:av}{μ:Mm}{w:World}
theorem ko(h:ao O μ w)(a:Nat)(b:Bk)(ha:a<4294967296)(hv:eD 1 a μ=some b):Calls prog 102 #[.pointer (some ⟨O.mb,0,none⟩),.int .i64 (a:Int)] w λe w'=>e= .returned (.tuple #[.agg (JV O.mb a b),.int .i64 0])/\MG O w μ w':=by
 obtain⟨h1,ht⟩:=cq hv;obtain⟨w0,Fx⟩:=Fp (w.alloc (.cells #[.int .i64 0,.int .i64 0,.bool false,.int .i64 0,.int .u32 0,.int .u32 0,.int .u32 0,.int .u32 0,.int .u64 0,.int .u16 0,.int .i64 0,.int .u32 0,.pointer none,.int .i64 0] 167));have GK:MG O w μ w0:=by rw[Fx];exact(MG.refl h).alloc _
 have Gd:Whole w0 w.heap.size 167 #[.int .i64 0,.int .i64 0,.bool false,.int .i64 0,.int .u32 0,.int .u32 0,.int .u32 0,.int .u32 0,.int .u64 0,.int .u16 0,.int .i64 0,.int .u32 0,.pointer none,.int .i64 0]:=by rw[Fx];exact Whole.new w _ _
 have HC:=Fh (aD GK.has);have Gw:=λW (hg:MG O w0 μ W)=>gy hg.has a b 0 ha h1;have Gn:=Fh Gw;have YZ:Hid (MG O w0 μ w0):=Fh (MG.refl GK.has);have FE:=Fh GK;have Jd:=Fh Gd;have HH:=Fh h;have G5:=h.cf;have z:¬((μ.Fq:Int)=0):=by omega
 have zz:¬(μ.Fq=0):=by omega
 have c0:((b.tag:Int) !=1)=false:=by rw[ht];rfl
 clear h GK Gd hv h1 G5 Gw ht;unfold G0 at Gn;go_in;go_upto_region 1 with fail;rw[<-Fx];clear Fx;go_wp2_with fail;refine HC.o.mono ?_;rintro e w1⟨rfl,FN⟩;have X7:=Fh (YZ.o.below FN);clear FN;go_wp2_with fail;refine(Gn.o _ X7.o).mono ?_;rintro e w2⟨rfl,Gg⟩;have Jc:=X7.o.trans Gg;have Gc:=Jc.kept.whole Jd.o (HH.o.Fu (Fm _));obtain⟨w3,F7⟩:=Fp (w2.alloc (.cells (G0 b) 165));have Gf:Below w2.heap.size w2 w3:=by rw[F7];exact(Below.refl _ _).alloc (Fm _) _
 have Jq:=(Gf.block _ Gc.lt).trans Gc;change Whole w3 w.heap.size _ _ at Jq;have Il:Whole w3 w2.heap.size 165 (G0 b):=by rw[F7];exact Whole.new _ _ _
 have FT:=Fh ((FE.o.trans Jc).below Gf);have Nc:=Fh Jq;obtain⟨sb,Jf⟩:=Fp w2.heap.size;rw[<-Jf]at Il;have hne:sb≠w.heap.size:=by have:=Gc.lt;omega
 obtain⟨x0,x1,x2,x3,x4,x5,x6,x7,x8,x9,IQ,I2⟩:=aZ Il;obtain⟨z0,z1,z2,z3,z4,z5,z6,z7,z8,z9,XF,XG,z12,z13⟩:=mj Jq;obtain⟨f0,f1,f2,f3,f4,f5,f6,f7,f8,f9,f10,f11,f12,f13⟩:=uR Jq;unfold G0 at F7;clear Jc Gg Gc Gf Jq Il;go_upto_region 4 with fail;rw[<-F7,<-Jf];clear F7 Jf;go_wp2_with fail;refine bodyPost_ret (aB rfl _ _ w.heap.size 167 _ (0,0) _ rfl (tf Nc.o _ _ _ _ _ _ _ _ _ _ _ _ _ _) underlying167 rfl (by kernel_rfl)) rfl ?_;exact⟨rfl,MG.beside HH.o FT.o (wW _ _ _ _ _ _ _ _ _ _ _ _ _ _ _ _) λk e=>by rw[e];exact Fm _⟩
theorem B8(mb a:Nat)(b:Bk)(w:World)(ha:a<4294967296):Calls prog 222 #[.agg (JV mb a b)] w λe w'=>e= .returned (.int .i64 ((a:Int)+32))/\Below w.heap.size w w':=by
 obtain⟨w0,Fx⟩:=Fp (w.alloc (.cells (JV mb a b) 167));have FM:Below w.heap.size w w0:=by rw[Fx];exact(Below.refl _ w).alloc (Fm _) _
 have Gd:Whole w0 w.heap.size 167 (JV mb a b):=by rw[Fx];exact Whole.new w _ _
 have x13:w0.cell? ⟨w.heap.size,13,none⟩=some (.int .i64 (a:Int)):=Gd.cell 13;have GW:=Fh FM;have r1:IntKind.i64.wrap ((a:Int)+32)=(a:Int)+32:=by rw[IntKind.wrap_i64];omega
 clear FM Gd;unfold JV at Fx⊢;go_in;go_upto_region 1 with fail;rw[<-Fx];clear Fx;go_wp2;go_ret;exact⟨rfl,GW.o⟩
structure AG(O:av)(w:World)(ab a:Nat)(b:Bk)(μ:Mm)(W:World):Prop where
 mg:MG O w μ W
 pt:Whole W ab 167 (JV O.mb a b)
 nt:¬au O ab
variable{ab a:Nat}{b:Bk}{W:World}
theorem AG.on{μ':Mm}{W2:World}(h:AG O w ab a b μ W)(k:MG O W μ' W2):AG O w ab a b μ' W2:=⟨h.mg.trans k,k.kept.whole h.pt h.nt,h.nt⟩
theorem AG.below{W2:World}(h:AG O w ab a b μ W)(k:Below W.heap.size W W2):AG O w ab a b μ W2:=h.on ((MG.refl h.mg.has).below k)
theorem AG.drew(h:AG O w ab a b μ W):AG O w ab a b μ W.drew:=h.below (Below.refl _ W).drew
theorem B9(h:ao O μ w)(a:Nat)(b:Bk):∃w0,w0=w.alloc (.cells (JV O.mb a b) 167)/\AG O w w.heap.size a b μ w0:=
 ⟨_,rfl,(MG.refl h).alloc _,Whole.new w _ _,h.Fu (Fm _)⟩
theorem yp(h:ao O μ w)(a v:Nat)(ha:a<4294967296)(hv:Bb a μ=some v):Calls prog 162 #[.pointer (some ⟨O.mb,0,none⟩),.int .i64 (a:Int)] w λe w'=>e= .returned (.int .u64 (v:Int))/\MG O w μ w':=by
 obtain⟨b,h1,h2⟩:=Fi hv;obtain rfl:=Fk h2;have Gn:=Fh (ko h a b ha h1);have FE:=Fh (MG.refl h);clear h hv h1 h2;unfold JV at Gn;go_in;go_wp2_with fail;refine Gn.o.mono ?_;rintro e w1⟨rfl,hg⟩;have FA:=Fh (FE.o.trans hg);clear hg;go_wp2;go_ret;exact⟨rfl,FA.o.alloc _⟩
theorem Cb(h:ao O μ w)(a:Nat)(b:Bk)(ha:a<4294967296)(hv:eD 1 a μ=some b):Calls prog 362 #[.pointer (some ⟨O.mb,0,none⟩),.int .i64 (a:Int)] w λe w'=>e= .returned (.bool (decide (b.used=1)))/\MG O w μ w':=by
 have Gn:=Fh (ko h a b ha hv);have FE:=Fh (MG.refl h);obtain⟨q,hq⟩:=Fp (decide (b.used=1));clear h hv;unfold JV at Gn;rw[<-hq]at Gn⊢;clear hq;go_in;go_wp2_with fail;refine Gn.o.mono ?_;rintro e w1⟨rfl,hg⟩;have FA:=Fh (FE.o.trans hg);clear hg;go_wp2;go_ret;exact⟨rfl,FA.o.alloc _⟩
theorem uS(h:ao O μ w)(a typ hh:Nat)(ha:a<4294967296)(ht:typ<65536)(hv:mM a typ μ=some hh):Calls prog 160 #[.pointer (some ⟨O.mb,0,none⟩),.int .i64 (a:Int),.int .u16 (typ:Int)] w λe w'=>e= .returned (.int .u32 (hh:Int))/\MG O w μ w':=by
 obtain⟨z,h1,h2⟩:=Fi hv;have h3:=Fk h2;have hz:=mY h1;have Sr:=Fh (pg h a z ha h1);have hk:=λW=>Dz (z:Int) (typ:Int) W (by omega) (by omega) (by omega) (by omega);simp only [Int.toNat_natCast,h3]at hk;have HK:=Fh hk;have FE:=Fh (MG.refl h);clear h hv h1 h2 h3 hk;go_in;go_wp2_with fail;refine Sr.o.mono ?_;rintro e w1⟨rfl,hg⟩;have FA:=Fh (FE.o.trans hg);clear hg;go_wp2_with fail;refine(HK.o _).mono ?_;rintro e w2⟨rfl,hb⟩;have FK:=Fh (FA.o.below hb);clear hb;go_wp2;go_ret;exact⟨rfl,FK.o⟩
theorem rL{a typ hh:Nat}(h:mM a typ μ=some hh):hh<4294967296:=by
 obtain⟨z,h1,h2⟩:=Fi h;rw[<-Fk h2];exact xI _ _
theorem rM(h:ao O μ w)(a:Nat)(ha:a<4294967296)(hv:kW a μ=some ()):Calls prog 158 #[.pointer (some ⟨O.mb,0,none⟩),.int .i64 (a:Int)] w λe w'=>e= .returned (.bool true)/\MG O w μ w':=by
 unfold kW at hv;have FE:=Fh (MG.refl h);by_cases h0:a=0
 ·have HC:=Fh (aD h);have G5:=h.cf;have z:¬((μ.Fq:Int)=0):=by omega
  have zz:¬(μ.Fq=0):=by omega
  have c0:((a:Int)==0)=true:=by rw[h0];rfl
  clear h hv h0 G5;go_in;go_wp2_with fail;refine HC.o.mono ?_;rintro e w1⟨rfl,hb⟩;have FA:=Fh (FE.o.below hb);clear hb;go_wp2;go_ret;exact⟨rfl,FA.o⟩
 ·rw[if_neg h0]at hv;obtain⟨l,h1,_⟩:=Fi hv;have HL:=Fh (mZ h a l ha h1);have c0:((a:Int)==0)=false:=by rw[Fo];omega
  obtain⟨S,hS⟩:∃S:ByteArray,S=⟨l.toArray⟩:=⟨_,rfl⟩;rw[<-hS]at HL;clear h hv h0 h1 hS;go_in;go_wp2_with fail;refine HL.o.mono ?_;rintro e w1⟨rfl,hg⟩;have FA:=Fh (FE.o.trans hg);clear hg;go_wp2;go_ret;exact⟨rfl,FA.o⟩
theorem uT(h:ao O μ w)(a typ r:Nat)(ha:a<4294967296)(ht:typ<65536)(hv:oI a typ μ=some r):Calls prog 93 #[.pointer (some ⟨O.mb,0,none⟩),.int .i64 (a:Int),.int .u16 (typ:Int)] w λe w'=>e= .returned (.tuple #[.int .i64 (r:Int),.bool (decide (r≠0))])/\MG O w μ w':=by
 obtain⟨_,h1,F0⟩:=Fi hv;obtain⟨z,h2,h3⟩:=Fi F0;have HNA:=Fh (rM h a ha h1);have Sr:=Fh (λW (hg:MG O w μ W)=>uS hg.has a typ z ha ht h2);have HIE:=Fh (λW (hg:MG O w μ W)=>zP hg.has a typ z r ha ht (rL h2) h3);have FE:=Fh (MG.refl h);have r1:IntKind.u32.wrap (a:Int)=(a:Int):=by rw[IntKind.wrap_u32];omega
 obtain⟨q,hq⟩:=Fp (decide (r≠0));rw[<-hq]at HIE⊢;clear h hv F0 h1 h2 h3 hq;go_in;go_wp2_with fail;refine HNA.o.mono ?_;rintro e w1⟨rfl,hg⟩;have FA:=Fh (FE.o.trans hg);clear hg;go_wp2_with fail;refine(Sr.o _ FA.o).mono ?_;rintro e w2⟨rfl,hg⟩;have FK:=Fh (FA.o.trans hg);clear hg;go_wp2_with fail;refine(HIE.o _ FK.o).mono ?_;rintro e w3⟨rfl,hg⟩;have FT:=Fh (FK.o.trans hg);clear hg;go_wp2;go_ret2;exact⟨rfl,FT.o⟩
end
section
variable{O:av}{μ:Mm}{w:World}{ab a:Nat}{b:Bk}{W:World}
theorem AG.held(h:AG O w ab a b μ W):aa (au O) w W/\W.cell? ⟨ab,0,none⟩=some (.int .i64 (b.tag:Int))/\W.cell? ⟨ab,1,none⟩=some (.int .i64 (b.Ft:Int))/\W.cell? ⟨ab,2,none⟩=some (.bool (decide (b.used=1)))/\W.cell? ⟨ab,3,none⟩=some (.int .i64 (b.label:Int))/\W.cell? ⟨ab,4,none⟩=some (.int .u32 (b.name:Int))/\W.cell? ⟨ab,5,none⟩=some (.int .u32 (b.next:Int))/\W.cell? ⟨ab,6,none⟩=some (.int .u32 (b.prev:Int))/\W.cell? ⟨ab,7,none⟩=some (.int .u32 (b.refs:Int))/\W.cell? ⟨ab,8,none⟩=some (.int .u64 (b.FB:Int))/\W.cell? ⟨ab,9,none⟩=some (.int .u16 (b.typ:Int))/\W.cell? ⟨ab,10,none⟩=some (.int .i64 (b.size:Int))/\W.cell? ⟨ab,11,none⟩=some (.int .u32 (b.hash:Int))/\W.cell? ⟨ab,12,none⟩=some (.pointer (some ⟨O.mb,0,none⟩))/\W.cell? ⟨ab,13,none⟩=some (.int .i64 (a:Int)):=⟨h.mg.kept,mj h.pt⟩
theorem zX(h:ao O μ w)(a c:Nat)(ha:a<4294967296)(hv:fG a c μ=some ()):Calls prog 170 #[.pointer (some ⟨O.mb,0,none⟩),.int .i64 (a:Int),.int .i64 (c:Int)] w λe w'=>e= .returned (.bool true)/\MG O w μ w':=by
 obtain⟨s,x,h1,FF,h2,hx,h3⟩:=eJ hv;obtain⟨b,rfl⟩:∃b,b=a:=⟨a,rfl⟩;subst hx;have II:=Fh (kh h b s b h1);have Le:=λW (hg:MG O w μ W)=>j6 hg.has b 4 (by omega) (by omega) (by omega);simp only [FF]at Le;have We:=Fh Le;have Gw:=λW (hg:MG O w μ W)=>gx hg.has s x h2;unfold LF at Gw;have Gn:=Fh Gw;have O4:=Fh (λW (hg:MG O w μ W)=>dA hg.has b 4 5 0 h3);have FE:=Fh (MG.refl h);clear h hv h1 h2 h3 Le Gw FF;go_in;go_wp2_with fail;refine II.o.mono ?_;rintro e w1⟨rfl,hg⟩;have FA:=Fh (FE.o.trans hg);clear hg;go_wp2_with fail;refine(We.o _ FA.o).mono ?_;rintro e w2⟨rfl,rfl⟩;go_wp2_with fail;refine(Gn.o _ FA.o).mono ?_;rintro e w3⟨rfl,hg⟩;have FT:=Fh (FA.o.trans hg);clear hg;obtain⟨w4,Hn⟩:=Fp (w3.alloc (.cells #[.int .i64 (x.Ft:Int),.int .i64 (x.live:Int),.int .u32 (x.free:Int),.int .i64 (x.next:Int),.int .i64 (x.prev:Int)] 176));have LK:Whole w4 w3.heap.size 176 #[.int .i64 (x.Ft:Int),.int .i64 (x.live:Int),.int .u32 (x.free:Int),.int .i64 (x.next:Int),.int .i64 (x.prev:Int)]:=by rw[Hn];exact Whole.new _ _ _
 have FW:Hid (MG O w μ w4):=Fh (by rw[Hn];exact FT.o.alloc _);obtain⟨x0,x1,x2,x3,x4⟩:=bt LK;clear LK;go_upto_region 5 with fail;rw[<-Hn];clear Hn;go_wp2_with fail;refine(O4.o _ FW.o).mono ?_;rintro e w5⟨rfl,hg⟩;have Gj:=Fh (FW.o.trans hg);clear hg;go_wp2;go_ret;exact⟨rfl,Gj.o⟩
theorem pj(h:ao O μ w)(a:Nat)(b:Bk)(p:List UInt8)(ha:a<4294967000)(hv:dC (a+32) b.size 5 μ=some p):Calls prog 117 #[.agg (JV O.mb a b)] w λe w'=>∃u,e= .returned u/\w'.ownsRow w.heap.size 5 1 u b.size (ay p)/\MG O w μ w':=by
 obtain⟨w0,Fx,hq⟩:=B9 h a b;have PE:=Fh hq;have HDA:=Fh (λW (hs:AG O w w.heap.size a b μ W)=>(B8 O.mb a b W (by omega)).mono λe w' hq=>(⟨hq.1,hs.below hq.2⟩:e= .returned (.int .i64 ((a:Int)+32))/\AG O w w.heap.size a b μ w'));have MH:=λW (hs:AG O w w.heap.size a b μ W)=>(mh hs.mg.has (a+32) b.size 5 p hv).mono λe w' hq=>(hq.imp λu x=>⟨x.1,aS x.2.1 hs.mg.kept.size,hs.on x.2.2⟩:∃u,e= .returned u/\w'.ownsRow w.heap.size 5 1 u b.size (ay p)/\AG O w w.heap.size a b μ w');simp only [show((a+32:Nat):Int)=(a:Int)+32 by omega]at MH;have Sq:=Fh MH;obtain⟨ab,LD⟩:=Fp w.heap.size;rw[<-LD]at HDA Sq PE;have Gu:=PE.o.drew;have YM:=Fh LD;clear h hv hq MH;unfold JV at Fx HDA⊢;go_in;go_upto_region 1 with fail;rw[<-Fx,<-LD];clear Fx LD;obtain⟨_,y0,y1,y2,y3,y4,y5,y6,y7,y8,y9,Ic,Ie,Iw,Iq⟩:=PE.o.held
 go_region_held3 (λw'=>aa (au O) w w'/\w'.cell? ⟨ab,0,none⟩=some (.int .i64 (b.tag:Int))/\w'.cell? ⟨ab,1,none⟩=some (.int .i64 (b.Ft:Int))/\w'.cell? ⟨ab,2,none⟩=some (.bool (decide (b.used=1)))/\w'.cell? ⟨ab,3,none⟩=some (.int .i64 (b.label:Int))/\w'.cell? ⟨ab,4,none⟩=some (.int .u32 (b.name:Int))/\w'.cell? ⟨ab,5,none⟩=some (.int .u32 (b.next:Int))/\w'.cell? ⟨ab,6,none⟩=some (.int .u32 (b.prev:Int))/\w'.cell? ⟨ab,7,none⟩=some (.int .u32 (b.refs:Int))/\w'.cell? ⟨ab,8,none⟩=some (.int .u64 (b.FB:Int))/\w'.cell? ⟨ab,9,none⟩=some (.int .u16 (b.typ:Int))/\w'.cell? ⟨ab,10,none⟩=some (.int .i64 (b.size:Int))/\w'.cell? ⟨ab,11,none⟩=some (.int .u32 (b.hash:Int))/\w'.cell? ⟨ab,12,none⟩=some (.pointer (some ⟨O.mb,0,none⟩))/\w'.cell? ⟨ab,13,none⟩=some (.int .i64 (a:Int)))
  (first|assumption|exact AG.held (by assumption))
  (first
   |((go_at_call 222;refine(HDA.o _ (by assumption)).mono ?_);rintro e w3 ⟨rfl,Il⟩)
   |((go_at_call 221;refine(Sq.o _ (by assumption)).mono ?_);rintro e w4 ⟨u,rfl,hu,Nf⟩))
 have HU:=Fh hu;have HS4:=Fh Nf;clear Gu y0 y1 y2 y3 y4 y5 y6 y7 y8 y9 Ic Ie Iw Iq;go_wp2;go_ret;exact⟨u,rfl,by rw[<-YM.o];exact HU.o,HS4.o.mg⟩
theorem yq(h:ao O μ w)(a u:Nat)(q:Bool)(μ':Mm)(ha:a<4294967296)(hu:u<=1)(hq:q=decide (u=1))(hv:tT a u μ=some μ'):Calls prog 115 #[.pointer (some ⟨O.mb,0,none⟩),.int .i64 (a:Int),.bool q] w λe w'=>e= .returned (.int .i64 0)/\MG O w μ' w':=by
 obtain⟨b,h1,h2⟩:=Fi hv;have Hb:=fL (cq h1).1;have Gn:=Fh (ko h a b ha h1);have Mn:=λW (hg:MG O w μ W)=>oh hg.has a {b with used:=u} μ' ha ⟨Hb.tag,Hb.Ft,(show u<256 by omega),Hb.label,Hb.name,Hb.next,Hb.prev,Hb.FB,Hb.typ,Hb.size,Hb.hash,Hb.refs⟩ hu h2;unfold G0 at Mn;simp only [<-hq]at Mn;have XW:=Fh Mn;have FE:=Fh (MG.refl h);have HH:=Fh h;clear h hv h1 h2 Hb Mn hq;unfold JV at Gn;go_in;go_wp2_with fail;refine Gn.o.mono ?_;rintro e w1⟨rfl,hg⟩;have FA:=Fh (FE.o.trans hg);clear hg;go_wp2_with fail;refine(XW.o _ (FA.o.alloc _)).mono ?_;rintro e w2⟨rfl,Gg⟩;have FK:=Fh ((FA.o.alloc _).trans Gg);clear Gg;go_wp2;go_ret;exact⟨rfl,FK.o⟩
theorem tg(h:ao O μ w)(a:Nat)(μ':Mm)(ha:a<4294967296)(hv:qV a μ=some μ'):Calls prog 52 #[.pointer (some ⟨O.mb,0,none⟩),.int .i64 (a:Int)] w λe w'=>(∃n:Int,e= .returned (.tuple #[.int .i64 n,.int .i64 0]))/\MG O w μ' w':=by
 obtain⟨b,h1,F0⟩:=Fi hv;obtain⟨m1,h2,GM⟩:=Fi F0;obtain⟨m2,h3,JF⟩:=Fi GM;obtain⟨m3,h4,h5⟩:=Fi JF;have PL:=(fL (cq h1).1).name;have Gn:=Fh (ko h a b ha h1);have Zb:=Fh (λW (hg:ao O μ W)=>DB hg a m1 ha h2);have HID:=Fh (λW (hg:ao O m1 W)=>yj hg a m2 ha h3);have Uw:=Fh (λW (hg:ao O m2 W)=>pc hg a m3 h4);have Zo:=Fh (λW (hg:ao O m3 W)=>uQ hg b.name μ' PL h5);have FE:=Fh (MG.refl h);clear h hv F0 GM JF h1 h2 h3 h4 h5;unfold JV at Gn;go_in;go_wp2_with fail;refine Gn.o.mono ?_;rintro e w1⟨rfl,hg⟩;have FA:=Fh (FE.o.trans hg);clear hg;obtain⟨w2,FL,IH⟩:=B9 FA.o.has a b;have Up:=Fh IH;obtain⟨ab,LD⟩:=Fp w1.heap.size;rw[<-LD]at Up;unfold JV at FL;clear IH;go_upto_region 4 with fail;rw[<-FL,<-LD];clear FL LD;go_wp2_with fail;refine(Zb.o _ Up.o.mg.has).mono ?_;rintro e w3⟨rfl,hg⟩;have LJ:=Fh (Up.o.on hg);clear hg;go_wp2_with fail;refine(HID.o _ LJ.o.mg.has).mono ?_;rintro e w4⟨rfl,hg⟩;have O9:=Fh (LJ.o.on hg);clear hg;go_wp2_with fail;refine(Uw.o _ O9.o.mg.has).mono ?_;rintro e w5⟨rfl,hg⟩;have Um:=Fh (O9.o.on hg);clear hg;obtain⟨_,y0,y1,y2,y3,y4,y5,y6,y7,y8,y9,Ic,Ie,Iw,Iq⟩:=Um.o.held;go_wp2_with fail;refine(Zo.o _ Um.o.mg.has).mono ?_;rintro e w6⟨⟨n,rfl⟩,hg⟩;have HQ6:=Fh (Um.o.on hg);clear hg y0 y1 y2 y3 y4 y5 y6 y7 y8 y9 Ic Ie Iw Iq;go_wp2;go_ret2;exact⟨⟨_,rfl⟩,FA.o.trans HQ6.o.mg⟩
end
def gK(w:World)(u:Value)(l:List UInt8):Prop:=∃g o c,u= .slice (some ⟨g,o,none⟩) l.length c/\l.length<=c/\∀(i:Nat) x,l[i]? =some x->w.cell? ⟨g,o+i,none⟩=some (.int .u8 (x.toNat:Int))
theorem gK.below{w w':World}{u:Value}{l:List UInt8}(h:gK w u l)(hb:Below w.heap.size w w'):gK w' u l:=by
 obtain⟨g,o,c,e,Lm,hc⟩:=h;exact⟨g,o,c,e,Lm,λi x hx=>(aa.below hb λ_=>False).cell (hc i x hx) id⟩
theorem gK.own{w:World}{B:Nat}{u:Value}{l:List UInt8}(h:w.ownsRow B 5 1 u l.length (ay l))(h0:1<=l.length):gK w u l:=by
 rcases h.2 with⟨_,h1⟩|⟨g,cap,Kb,rfl,hb,hg,Lm,hm,hs,ht⟩
 ·omega
 ·refine⟨g,0,cap,rfl,Lm,λi x hx=> ?_⟩;have hi:=(List.getElem?_eq_some_iff.1 hx).1;have hv:(ay l)[i]? =some (.int .u8 (x.toNat:Int)):=by
   unfold ay;rw[List.getElem?_map,hx];rfl
  rw[<-ht,List.getElem?_take_of_lt (by omega)]at hv;rw[Nat.zero_add];simp only [World.cell?,hg];simpa using hv
theorem ml{b:List UInt8}(h:(eR b).2=0):∃n l,n=(b.getD 0 0).toNat/\2<=b.length/\1<=n/\n<=16/\(b.getD 1 0).toNat=0/\2+2*n<=b.length/\b.length<=480/\(eR b).1=l/\l=(List.range n).map (λi=>kE b (2+2*i))/\Hc l=true/\l.getLastD 0=b.length-2-2*n:=by
 unfold eR at h⊢;by_cases h1:b.length<2
 ·rw[if_pos h1]at h;simp at h
 rw[if_neg h1]at h⊢;by_cases h2:(b.getD 0 0).toNat=0\/16<(b.getD 0 0).toNat\/(b.getD 1 0).toNat≠0
 ·rw[if_pos h2]at h;simp at h
 rw[if_neg h2]at h⊢;by_cases h3:b.length<2+2*(b.getD 0 0).toNat
 ·rw[if_pos h3]at h;simp at h
 rw[if_neg h3]at h⊢;dsimp only at h⊢;by_cases h4:Hc ((List.range (b.getD 0 0).toNat).map λi=>kE b (2+2*i))=false
 ·rw[if_pos h4]at h;simp at h
 rw[if_neg h4]at h⊢;by_cases h5:b.length-2-2*(b.getD 0 0).toNat<((List.range (b.getD 0 0).toNat).map λi=>kE b (2+2*i)).getLastD 0
 ·rw[if_pos h5]at h;simp at h
 rw[if_neg h5]at h⊢;by_cases h6:((List.range (b.getD 0 0).toNat).map λi=>kE b (2+2*i)).getLastD 0<b.length-2-2*(b.getD 0 0).toNat\/480<b.length
 ·rw[if_pos h6]at h;simp at h
 rw[if_neg h6]at h⊢;exact⟨(b.getD 0 0).toNat,_,rfl,by omega,by omega,by omega,by omega,by omega,by omega,rfl,rfl,by simpa using h4,by show List.getLastD _ 0=_;dsimp only;omega⟩
theorem Kj:∀ {l:List Nat} (_:Hc l=true) (i x y:Nat),l[i]? =some x->l[i+1]? =some y->x<=y
 | [],_,i,x,y,h1,_=>by simp at h1
 | [_],_,i,x,y,_,h2=>by simp at h2
 |a::b::l,h,i,x,y,h1,h2=>by
  rw[Hc,Bool.and_eq_true]at h;cases i with
  |zero=>
   simp at h1 h2;subst h1 h2;exact Nat.le_of_ble_eq_true h.1
  |succ i=>exact Kj h.2 i x y (by simpa using h1) (by simpa using h2)
theorem DG(b:List UInt8)(i:Nat):kE b i<65536:=by
 have h1:=(b.getD i 0).toNat_lt;have h2:=(b.getD (i+1) 0).toNat_lt;unfold kE;omega
theorem yr(x:Int)(w:World):Calls prog 358 #[.int .i64 x] w λe w'=>e= .returned (.bool false)/\w'=w:=by
 have c:(x !=x)=false:=by simp
 go_in;go_wp2;go_ret;exact⟨rfl,rfl⟩
theorem DH(x y:Nat)(w:World)(h:y<=x):Calls prog 341 #[.int .i64 (x:Int),.int .i64 (y:Int)] w λe w'=>e= .returned (.bool false)/\w'=w:=by
 have d1:decide ((x:Int)<(y:Int))=false:=by simp;omega
 have d2:decide (x<y)=false:=by simp;omega
 have N1:=Fh (yr (x:Int));have N2:=Fh (yr (y:Int));clear h;go_in;go_wp2_with fail;refine(N1.o _).mono ?_;rintro e w1⟨rfl,rfl⟩;go_wp2;go_ret;exact⟨rfl,rfl⟩
def pk(w:World)(g:Nat)(l:List Nat):Prop:=Whole w g 3 (aO l).toArray
theorem pk.cell{w:World}{g:Nat}{l:List Nat}(h:pk w g l)(i x:Nat)(hx:l[i]? =some x):w.cell? ⟨g,i,none⟩=some (.int .i64 (x:Int)):=by
 rw[Whole.cell h,List.getElem?_toArray];unfold aO;rw[List.getElem?_map,hx];rfl
theorem zY(g n c:Nat)(l:List Nat)(w:World)(hl:l.length=n)(hn:n<1000)(h:pk w g l)(hs:Hc l=true):Calls prog 299 #[.slice (some ⟨g,0,none⟩) n c] w λe w'=>e= .returned (.bool true)/\Below w.heap.size w w':=by
 have HN:=Fh (λW (hb:Below w.heap.size w W) i x hx=>(aa.below hb λ_=>False).cell (h.cell i x hx) id);have HS:=Fh (λi x y h1 h2=>Kj hs i x y h1 h2);have HL:=Fh hl;clear h hs hl;go_in;go_wp2_with fail
 go_loopw [2,3] (λ_ s3 wr=>∃i:Int,-1<=i/\i<n/\s3= .int .i64 i/\Hid (Below w.heap.size w wr)) (λ_ s3 wr=>match s3 with| .int _ m=>(m+1).toNat|_=>0)
 case atStart=>exact⟨(n:Int)-1,by omega,by omega,by go_num,Fh (Below.refl _ _)⟩
 case round=>
  obtain⟨i,h1,h2,rfl,HB⟩:=hrel;by_cases FR:0<i
  ·obtain⟨q,rfl⟩:∃q:Nat,i=(q:Int):=⟨i.toNat,by omega⟩;obtain⟨j,hj⟩:∃j,q=j+1:=⟨q-1,by omega⟩;have G1:=HL.o;obtain⟨x,Q5⟩:∃x,l[q]? =some x:=⟨_,Fl (by omega)⟩;obtain⟨y,MM⟩:∃y,l[j]? =some y:=⟨_,Fl (by omega)⟩;have c1:=λW hb=>HN.o W hb q x Q5;have c2:=λW hb=>HN.o W hb j y MM;have hle:y<=x:=HS.o j y x MM (by rw[<-hj];exact Q5);have YS:=Fh (λW=>DH x y W hle);have C1:=Fh c1;have C2:=Fh c2;have q1:q<n:=by omega
   have q2:j<n:=by omega
   have q3:(0:Int)<=(j:Int):=by omega
   have q4:(j:Int)<(n:Int):=by omega
   have q7:IntKind.i64.wrap ((q:Int)-1)=(j:Int):=by
    rw[IntKind.wrap_i64];omega
   have q5:(0:Int)<=(q:Int):=by omega
   have q6:(q:Int)<(n:Int):=by omega
   have d1:decide ((q:Int)>0)=true:=by simp;omega
   have d3:decide (0<(q:Int))=true:=by simp;omega
   have d2:decide (0<q)=true:=by simp;omega
   have y1:=C1.o _ HB.o;have y2:=C2.o _ HB.o;have Gu:Below w.heap.size w wr.drew/\wr.drew.cell? ⟨g,q,none⟩=some (.int .i64 (x:Int))/\wr.drew.cell? ⟨g,j,none⟩=some (.int .i64 (y:Int)):=⟨HB.o.drew,y1,y2⟩;clear Q5 MM c1 c2 hle h1 h2 FR G1 hj;go_wp2_with fail
   go_region_held3 (λw'=>Below w.heap.size w w'/\w'.cell? ⟨g,q,none⟩=some (.int .i64 (x:Int))/\w'.cell? ⟨g,j,none⟩=some (.int .i64 (y:Int)))
    (first|assumption|exact⟨by assumption,C1.o _ (by assumption),C2.o _ (by assumption)⟩)
    (first
     |((go_at_call 341;refine(YS.o _).mono ?_);rintro e w3 ⟨rfl,rfl⟩))
   have M9:Hid (Below w.heap.size w _):=Fh (And.left (by assumption));clear Gu q7;go_wp2;go_roundw
   case rel=>exact⟨(q:Int)-1,by omega,by omega,by go_num,M9⟩
   case measure=>simp
  ·have d1:decide (i>0)=false:=by simp at FR⊢;omega
   have d3:decide (0<i)=false:=by simp at FR⊢;omega
   go_wp2;go_ret;exact⟨rfl,HB.o⟩
theorem getD_some{l:List UInt8}{i:Nat}(h:i<l.length):l[i]? =some (l.getD i 0):=by
 rw[List.getD_eq_getElem?_getD,Fl h];rfl
theorem UA:(prog.info? 3).map (λi=>(i.zero,i.size,i.bytes))=some (some (.int .i64 0),1,8):=by kernel_rfl
def wX(w:World)(g n k:Nat)(l:List Nat):Prop:=∃cs:Array Value,Whole w g 3 cs/\cs.size=n/\∀i x,i<k->l[i]? =some x->cs[i]? =some (.int .i64 (x:Int))
theorem uU{w:World}{g:Nat}{l:List Nat}(h:wX w g l.length l.length l):pk w g l:=by
 obtain⟨cs,hw,hcs,hci⟩:=h;have e:cs=(aO l).toArray:=by
  refine Array.ext_getElem? λi=> ?_;have e2:(aO l).toArray[i]? =(aO l)[i]? :=List.getElem?_toArray ..;have e3:(aO l)[i]? =(l[i]?).map λ(x:Nat)=>Value.int .i64 (x:Int):=by
   unfold aO;rw[List.getElem?_map]
  rw[e2,e3];by_cases hi:i<l.length
  ·rw[hci i l[i] hi (Fl hi),Fl hi];rfl
  ·rw[Array.getElem?_eq_none (by omega),List.getElem?_eq_none (by omega)];rfl
 unfold pk;rw[<-e];exact hw
theorem DI(b:List UInt8)(u:Value)(w:World)(h:gK w u b)(hv:(eR b).2=0):Calls prog 219 #[u] w λe w'=>∃g n,n=(eR b).1.length/\e= .returned (.tuple #[.slice (some ⟨g,0,none⟩) n n,.int .i64 0])/\w.heap.size<=g/\pk w' g (eR b).1/\Below w.heap.size w w':=by
 obtain⟨n,l,hn,b1,b2,b3,b4,b5,b6,e1,hl,hs,LL⟩:=ml hv;rw[e1];have G1:l.length=n:=by rw[hl];simp
 rw[G1];have hli:∀i,i<n->l[i]? =some (kE b (2+2*i)):=λi hi=>by rw[hl,List.getElem?_map,List.getElem?_range hi];rfl
 have VN:=Fh hli;have hlz:l[n-1]? =some (b.length-2-2*n):=by
  rw[<-LL,List.getLastD_eq_getLast?,List.getLast?_eq_getElem?,G1];rw[hli (n-1) (by omega)];rfl
 obtain⟨g0,o,c,rfl,Lm,hc⟩:=h;have FM:w.cell? ⟨g0,o+0,none⟩=some (.int .u8 (n:Int)):=by rw[hc 0 _ (getD_some (by omega)),hn]
 have FN:w.cell? ⟨g0,o+1,none⟩=some (.int .u8 0):=by rw[hc 1 _ (getD_some (by omega)),b4];rfl
 have HC:=Fh hc;obtain⟨N,hN⟩:=Fp b.length;rw[<-hN]at b1 b5 b6 hlz⊢;have ME:=λ(k:Nat) (W:World) (hk:k<n) (hb:Below w.heap.size w W)=>sK g0 o N c (2+2*k) 2 (λj=>(b.getD (2+2*k+j) 0).toNat) W (.inr (.inl rfl)) (by omega) (by omega) (by omega) (λj=>(b.getD (2+2*k+j) 0).toNat_lt) (λj hj=>by rw[(aa.below hb λ_=>False).cell (hc (2+2*k+j) _ (getD_some (by omega))) id]);have hle:∀k,Qh (λj=>(b.getD (2+2*k+j) 0).toNat) 2=kE b (2+2*k):=λk=>by simp[Qh,kE]
 simp only [hle,show((2:Nat):Int)=2 from rfl]at ME;have O4:=Fh ME;obtain⟨i0,hi,G9,G8,G7⟩:=info_parts UA;have Ks:=run_make w 125 3 i0 (.int .i64 0) underlying125 hi G9 .i64 .i64 n n (by omega) (by omega) (by rw[G7];omega) (by omega);rw[G8,show(Value.int .i64 0).cells= #[.int .i64 0]from rfl]at Ks;simp only [Int.toNat_natCast,Nat.mul_one]at Ks;have F8:(madeCells #[.int .i64 0] n).size=n:=by simp[madeCells]
 obtain⟨w1,FJ⟩:=Fp (w.alloc (.cells (madeCells #[.int .i64 0] n) 3));rw[<-FJ]at Ks;have IZ:wX w1 w.heap.size n 0 l:=⟨_,by rw[FJ];exact Whole.new w _ _,F8,λi x hx=>absurd hx (Nat.not_lt_zero _)⟩;have hB1:Below w.heap.size w w1:=by rw[FJ];exact(Below.refl _ _).alloc (Fm _) _
 obtain⟨g,hg⟩:=Fp w.heap.size;rw[<-hg]at Ks IZ;have TR:=Fh IZ;have GH:=Fh hB1;have HGG:=Fh hg;have HW1:=Fh FJ;have c1:((n:Int)==0)=false:=by simp;omega
 have c2:decide ((n:Int)>16)=false:=by simp;omega
 have c3:decide (16<(n:Int))=false:=by simp;omega
 have c4:decide (16<n)=false:=by simp;omega
 have c5:decide ((N:Int)<2)=false:=by simp;omega
 have c6:decide (N<2)=false:=by simp;omega
 have c7:decide ((N:Int)<2+2*(n:Int))=false:=by simp;omega
 have c8:decide (N<2+2*n)=false:=by simp;omega
 have c9:decide ((N:Int)>480)=false:=by simp;omega
 have KN:decide (480<(N:Int))=false:=by simp;omega
 have Kr:decide (480<N)=false:=by simp;omega
 have c12:(n==0)=false:=by simp;omega
 have n0:0<N:=by omega
 have n1:1<N:=by omega
 have y0:=FM;rw[Nat.add_zero]at y0;have HS:=Fh hs;have HLZ:=Fh hlz;have L0:=Fh G1;clear hs hlz hli LL ME IZ hB1 hg hc FM hi G9 G8 G7 FJ hN hn hl hv e1 hle F8 G1 b4;go_in;go_wp2_with fail
 go_loopw [6,7,8,39] (λ_ _ _ s39 wr=>∃k:Nat,k<=n/\s39= .int .i64 k/\Hid (wX wr g n k l)/\Hid (Below w.heap.size w wr)) (λ_ _ _ s39 wr=>match s39 with| .int _ m=>n-m.toNat|_=>0)
 case atStart=>exact⟨0,Nat.zero_le _,rfl,TR,GH⟩
 case round=>
  obtain⟨k,hk,rfl,HM,HB⟩:=hrel;by_cases FR:k<n
  ·obtain⟨cs,hw,hcs,hci⟩:=HM.o;have HV:=Fh (O4.o k wr FR HB.o);simp only [show((2+2*k:Nat):Int)=2+2*(k:Int)by omega]at HV;have HX:=Fh (VN.o k FR);have MM:=DG b (2+2*k);obtain⟨x,hx⟩:=Fp (kE b (2+2*k));rw[<-hx]at HV HX MM;have MO:wr.cell? ⟨g,k,none⟩=some cs[k]:=by rw[hw.cell];simp[hcs,FR]
   obtain⟨y,hy⟩:=Fp (cs[k]);rw[<-hy]at MO;have hfz:=hw.frozen k;have HW:=Fh hw;have HCS:=Fh hcs;have HCI:=Fh hci;clear hx hy hw hcs hci;go_wp2_with fail;refine HV.o.mono ?_;rintro e w2⟨rfl,rfl⟩;go_wp2;go_roundw
   case rel=>
    refine⟨k+1,by omega,by go_num,Fh ⟨cs.setIfInBounds k (.int .i64 (x:Int)),HW.o.put k _,by rw[Array.size_setIfInBounds];exact HCS.o,λi y hi hy=> ?_⟩,Fh ?_⟩
    ·rw[Array.getElem?_setIfInBounds];by_cases VP:k=i
     ·subst VP;rw[if_pos rfl,if_pos (by rw[HCS.o];exact FR)];have:=hy.symm.trans HX.o;rw[Fk this]
     ·rw[if_neg VP];exact HCI.o i y (by omega) hy
    ·exact aa.F1 (S:=λi=>i=g) ((aa.below HB.o (λi=>i=g)).setCell (p:=⟨g,k,none⟩) (.inl rfl) _) (Fm _) (λi hi e=>by have:=HGG.o;omega)
   case measure=>simp;omega
  ·have KZ:k=n:=by omega
   subst KZ;obtain⟨cs,hw,hcs,hci⟩:=HM.o;have NX:pk wr g l:=by
    have:=HM.o;rw[<-L0.o]at this;exact uU this
   have Zs:=Fh NX;have HSO:=Fh (zY g k k l wr L0.o (by omega) NX HS.o);clear hw hcs hci NX;go_wp2_with fail;refine HSO.o.mono ?_;rintro e w3⟨rfl,Gf⟩;have WE:pk w3 g l:=(Gf.block _ (Whole.lt Zs.o)).trans Zs.o;obtain⟨j,hj⟩:∃j,k=j+1:=⟨k-1,by omega⟩;have GI:=WE.cell j _ (by rw[<-HLZ.o,hj];rfl);obtain⟨z,hz⟩:=Fp (N-2-2*k);rw[<-hz]at GI;have q1:IntKind.i64.wrap ((k:Int)-1)=(j:Int):=by
    rw[IntKind.wrap_i64];omega
   have q2:j<k:=by omega
   have q3:(0:Int)<=(j:Int):=by omega
   have q4:(j:Int)<(k:Int):=by omega
   have q5:IntKind.i64.wrap ((N:Int)-2-2*(k:Int))=(z:Int):=by
    rw[IntKind.wrap_i64];omega
   have q8:IntKind.i64.wrap ((N:Int)-2)=(N:Int)-2:=by
    rw[IntKind.wrap_i64];omega
   have q6:decide ((z:Int)>(z:Int))=false:=by simp
   have q7:decide ((z:Int)<(z:Int))=false:=by simp
   have q9:decide (z<z)=false:=by simp
   have HN3:=Fh WE;have M9:=Fh (HB.o.trans (Gf.mono HB.o.size));clear WE hj hz Gf;go_wp2;go_ret2;exact⟨g,k,rfl,rfl,by rw[HGG.o];exact Fm _,HN3.o,M9.o⟩
def bW(B:Nat)(w:World)(v:Value)(us:List Value)(l:List (List UInt8)):Prop:=us.length=l.length/\w.ownsRow B 73 1 v l.length us/\∀(i:Nat) (u:Value) (x:List UInt8),us[i]? =some u->l[i]? =some x->w.ownsRow B 5 1 u x.length (ay x)
theorem fq{w:World}{B B':Nat}{E E':TypeId}{u v:Value}{n n':Nat}{xs ys:List Value}{k:Nat}(h:w.ownsRow B E 1 v n xs)(h':w.ownsRow B' E' 1 u n' ys)(hE:E≠E')(hk:u.ownBlock=some k):v.ownBlock≠some k:=λe=>by
 rcases h.2 with⟨rfl,_⟩|⟨g,cap,Kb,rfl,_,hg,_⟩
 ·simp[Value.ownBlock]at e
 ·rcases h'.2 with⟨rfl,_⟩|⟨g',cap',cur',rfl,_,UB,_⟩
  ·simp[Value.ownBlock]at hk
  ·have e1:g=k:=by simpa[Value.ownBlock]using e
   have e2:g'=k:=by simpa[Value.ownBlock]using hk
   subst e1 e2;rw[hg]at UB;injection UB with h1;injection h1 with _ h2 _;exact hE h2
theorem po{w:World}{ops:Array Oper}{rest:List Oper}{o:Oper}{a:Act}{Q:Exit->Act->World->Prop}(J2:o.guard=none)(s x:Operand)
  (ho:o.op= .call {callee:= .builtin .append,args:= #[s,x],argTypes:= #[41,41]})
  (B:Nat) (v:Value) (n:Nat) (xs:List Value) (hs:a.eval s=v) (Gq:w.ownsRow B 73 1 v n xs)
  (g:Nat) (u:Value) (hx:a.eval x= .slice (some ⟨g,0,none⟩) 1 1) (hg:w.cell? ⟨g,0,none⟩=some u) (h1:u.oneCell'=true) (hn:n<=1000000) (hB:B<=w.heap.size)
  (h:∀v' w',w'.ownsRow B 73 1 v' (n+1) (xs++ [u])->aa (λk=>v.ownBlock=some k) w w'->wpList prog ops Q rest (a.put o.dst v') w'):wpList prog ops Q (o::rest) a w:=by
 obtain⟨i0,Px,G9,G8,G7⟩:=info_parts Kc;refine wpList_append_own w J2 s x 41 ho B 73 i0 (.slice none 0 0) 1 24 underlying41 Px G9 G8 G7 rfl (by decide) v n xs hs Gq ⟨g,0,none⟩ 1 1 [u] hx rfl (λj u' hj=> ?_) (λu' hu=> ?_) (by unfold maxLen;omega) (by omega) hB λv' w' h1 h2 _=>h v' w' h1 (aa.grown h2)
 ·cases j with
  |zero=>
   simp at hj;subst hj;exact hg
  |succ j=>simp at hj
 ·simp at hu;subst hu;exact h1
theorem Ln:∀(d:List UInt8) (l:List Nat) (n k e st:Nat),l[k]? =some e->(n::l)[k]? =some st->(iV d n l)[k]? =some ((d.take e).drop st)
 |d,[],n,k,e,st,h,_=>by simp at h
 |d,a::l,n,0,e,st,h1,h2=>by
  simp at h1 h2;subst h1 h2;simp[iV]
 |d,a::l,n,k+1,e,st,h1,h2=>by
  rw[iV,List.getElem?_cons_succ];exact Ln d l a k e st (by simpa using h1) (by simpa using h2)
theorem Iy:∀(d:List UInt8) (l:List Nat) (n:Nat),(iV d n l).length=l.length
 |d,[],n=>rfl
 |d,a::l,n=>by simp[iV,Iy d l a]
theorem JK:∀ {l:List Nat} (_:Hc l=true) (i x:Nat),l[i]? =some x->x<=l.getLastD 0
 | [],_,i,x,h=>by simp at h
 | [a],_,i,x,h=>by
  cases i with
  |zero=>simp at h;subst h;simp
  |succ i=>simp at h
 |a::b::l,hs,i,x,h=>by
  rw[Hc,Bool.and_eq_true]at hs;have e:(a::b::l).getLastD 0=(b::l).getLastD 0:=by simp
  rw[e];cases i with
  |zero=>
   simp at h;subst h;exact Nat.le_trans (Nat.le_of_ble_eq_true hs.1) (JK hs.2 0 b (by simp))
  |succ i=>exact JK hs.2 i x (by simpa using h)
theorem iK{b:List UInt8}(h:(aP b).2=0):(eR b).2=0/\(aP b).1=iV (b.drop (2+2*(eR b).1.length)) 0 (eR b).1:=by
 unfold aP at h⊢;by_cases h1:(eR b).2=0
 ·rw[if_pos h1];exact⟨h1,rfl⟩
 ·rw[if_neg h1]at h;exact absurd h h1
theorem uV{P:Program}{t e:TypeId}{s:Nat}(ht:P.underlying t=some (.slice e))(hs:∀w,(sizeOf e).run P w= .ok s w)(A:Option Addr)(n c:Nat)(kd ke:IntKind)(lo hi:Nat)(h1:lo<=hi)(h2:hi<=c)(w:World):
  (Instr.slice t (.slice A n c) (some (.int kd (lo:Int))) (some (.int ke (hi:Int))) none).run P w= .ok (.slice (fD A c lo s) (hi-lo) (c-lo)) w:=by
 have e1:(Instr.sliceBound (.int ke (hi:Int)) c .sliceAcap).run P w= .ok hi w:=run_sliceBound w ke hi c _ (by omega) (by omega);have e2:∀code,(Instr.sliceBound (.int kd (lo:Int)) hi code).run P w= .ok lo w:=λcode=>run_sliceBound w kd lo hi code (by omega) (by omega);simp[Instr.slice,run_underlying ht,Instr.sliceBounds,e1,e2,hs,fD]
theorem gK.row{w:World}{A:Option Addr}{n c:Nat}{l:List UInt8}(h:gK w (.slice A n c) l):aM w A (ay l):=by
 obtain⟨g,o,c',e,Lm,hc⟩:=h;injection e with e1;subst e1;intro i v hv;unfold ay at hv;rw[List.getElem?_map]at hv;obtain⟨x,hx,rfl⟩:=Option.map_eq_some_iff.1 hv;exact⟨g,o,rfl,hc i x hx⟩
theorem Cc{w:World}{A:Option Addr}{l:List UInt8}(h:aM w A (ay l))(e:Nat):aM w A (ay (l.take e)):=λi v hv=>h i v (by
 unfold ay at hv⊢;rw[List.map_take]at hv;rw[List.getElem?_take]at hv;split at hv
 ·exact hv
 ·cases hv)
theorem yt{w:World}{A:Option Addr}{l:List UInt8}(h:aM w A (ay l)){c k:Nat}(hc:l.length<=c):aM w (fD A c k 1) (ay (l.drop k)):=by
 have:=h.cut (c:=c) (k:=k) (s:=1) (by unfold ay;rw[List.length_map];omega);unfold ay at this⊢;rw[List.map_drop];simpa using this
theorem th{w w1 w2:World}(h:Below w.heap.size w w1)(k:Below w1.heap.size w1 w2):Below w.heap.size w w2:=ah h k
def EE(B:Nat)(w W:World)(g n k:Nat)(el:List Nat)(v:Value)(us:List Value)(ls:List (List UInt8)):Prop:=us.length=k/\W.ownsRow B 73 1 v k us/\(∀(i:Nat) (u:Value) (x:List UInt8),us[i]? =some u->ls[i]? =some x->W.ownsRow B 5 1 u x.length (ay x))/\pk W g el/\Below B w W
theorem m8(b:List UInt8)(u:Value)(w:World)(h:gK w u b)(hv:(aP b).2=0):Calls prog 116 #[u] w λe w'=>∃v us,e= .returned (.tuple #[v,.int .i64 0])/\bW w.heap.size w' v us (aP b).1/\Below w.heap.size w w':=by
 obtain⟨F0,hu⟩:=iK hv;rw[hu];have HE:=Fh (DI b u w h F0);obtain⟨n,l,hn,b1,b2,b3,b4,b5,b6,e1,hl,hs,LL⟩:=ml F0;rw[e1]at HE⊢;have G1:l.length=n:=by rw[hl];simp
 rw[G1]at HE⊢;have Gh:∃A c,u= .slice A b.length c/\b.length<=c/\aM w A (ay b):=by
  obtain⟨g0,o,c,e,Lm,hc⟩:=h;exact⟨_,c,e,Lm,gK.row (n:=b.length) (c:=c) ⟨g0,o,c,rfl,Lm,hc⟩⟩
 obtain⟨A,c,rfl,Lm,Gh⟩:=Gh;obtain⟨p,hp⟩:=Fp (2+2*n);rw[<-hp]at b5⊢;have hcut:=λW=>lI (P:=prog) underlying73 sizeOf5 A b.length c .i64 (p:Int) (by omega) (by omega) W;rw[show((p:Int)).toNat=p by omega]at hcut;have RU:aM w (fD A c p 1) (ay (b.drop p)):=yt Gh Lm;obtain⟨A1,hA1⟩:=Fp (fD A c p 1);rw[<-hA1]at hcut RU;obtain⟨d,hd⟩:=Fp (b.drop p);rw[<-hd]at RU⊢;have hdl:d.length=b.length-p:=by rw[hd,List.length_drop]
 have Zt:=Fh RU;obtain⟨N,hN⟩:=Fp b.length;have HNN:=Fh hN;have HS:=Fh hs;have L0:=Fh G1;have RS:Hid (∀i x,l[i]? =some x->x<=N-p):=Fh λi x hx=>by
  have:=JK hs i x hx;rw[LL]at this;omega
 rw[<-hN]at HE Lm b1 b5 b6 hcut hdl⊢;have HDL:=Fh hdl;have HP:=Fh hp;clear hs LL hN hn hl G1 e1 hu F0 hv b4 Gh RU hA1 hd hdl hp h;go_in;go_wp2_with fail;refine HE.o.mono ?_;rintro e w1⟨g,n',Pb,rfl,hg,NX,FN⟩;have ML:=Pb.symm;subst ML;have m1:IntKind.i64.wrap (2*(n:Int))=2*(n:Int):=by rw[IntKind.wrap_i64];omega
 have m2:IntKind.i64.wrap (2+2*(n:Int))=(p:Int):=by rw[IntKind.wrap_i64];have:=HP.o;omega
 obtain⟨i0,hi,G9,G8,G7⟩:=info_parts Kc;have Ks:=run_make w1 41 73 i0 (.slice none 0 0) underlying41 hi G9 .i64 .i64 0 n (by omega) (by omega) (by rw[G7];omega) (by omega);rw[G8,show(Value.slice none 0 0).cells= #[.slice none 0 0]from rfl]at Ks;simp only [Int.toNat_natCast,Nat.mul_one,Int.toNat_zero]at Ks;have L6:=World.ownsRow_made (base:=w.heap.size) (e:=73) (size:=1) w1 (madeCells #[.slice none 0 0] n) n FN.size (by unfold maxLen;omega) (by simp[madeCells]);obtain⟨w2,FL⟩:=Fp (w1.alloc (.cells (madeCells #[.slice none 0 0] n) 73));rw[<-FL]at Ks L6;have Zu:Below w1.heap.size w1 w2:=by rw[FL];exact(Below.refl _ _).alloc (Fm _) _
 have ML:pk w2 g l:=(Zu.block _ (Whole.lt NX)).trans NX;have Oz:=Fh L6;have QQ:=Fh ML;have Gx:=Fh (ah FN Zu);have VB:=Fh FL;have HG:=Fh hg;clear Pb FN NX hi G9 G8 G7 Zu ML L6 FL hg;go_wp2_with fail
 go_loopw [7,8,10,30] (λs7 s8 _ Zv wr=>∃(k st:Nat) (A7:Option Addr) (c7:Nat) (us:List Value),k<=n/\s7= .slice A7 k c7/\s8= .int .i64 st/\Zv= .int .i64 k/\Hid ((0::l)[k]? =some st)/\Hid (EE w.heap.size w wr g n k l (.slice A7 k c7) us (iV d 0 l))) (λ_ _ _ Zv wr=>match Zv with| .int _ m=>n-m.toNat|_=>0)
 case atStart=>exact⟨0,0,_,n,[],Nat.zero_le _,rfl,rfl,rfl,Fh rfl,Fh ⟨rfl,Oz.o,λi u x h=>by simp at h,QQ.o,Gx.o⟩⟩
 case round=>
  obtain⟨k,st,A7,c7,us,hk,rfl,rfl,rfl,LG,HQ⟩:=hrel;by_cases FR:k<n
  ·obtain⟨Rf,Gq,GU,NX,Hb⟩:=HQ.o;have G1:=L0.o;obtain⟨e,he⟩:∃e,l[k]? =some e:=⟨_,Fl (by omega)⟩;have x0:wr.cell? ⟨g,k,none⟩=some (.int .i64 (e:Int)):=NX.cell k e he;have hle:e<=N-p:=RS.o k e he;have OA:st<=e:=by
    have h1:=LG.o;cases k with
    |zero=>simp at h1;omega
    |succ k=>exact Kj HS.o k st e (by simpa using h1) he
   have hcg:=Ln d l 0 k e st he LG.o;obtain⟨x,hx⟩:=Fp ((d.take e).drop st);rw[<-hx]at hcg;have Pc:x.length=e-st:=by
    have:=HDL.o;rw[hx,List.length_drop,List.length_take];omega
   have UC:=λW=>uV (P:=prog) underlying73 sizeOf5 A1 (N-p) (c-p) .i64 .i64 st e OA (by omega) W;have hrx:aM wr (fD A1 (c-p) st 1) (ay x):=by
    rw[hx];refine yt (Cc (Zt.o.below Hb) e) ?_;have:=HDL.o;rw[List.length_take];omega
   obtain⟨A2,hA2⟩:=Fp (fD A1 (c-p) st 1);rw[<-hA2]at UC hrx;have GI:=kT A2 (c-p-st) x wr (by omega) hrx;rw[Pc]at GI;have JE:=Fh GI;have HCG:=Fh hcg;have HXL:=Fh Pc;have Tu:=Fh Rf;have HOW:=Fh Gq;have Nu:=Fh GU;have Zs:=Fh NX;have II:=Fh Hb;have Pu:=Fh he;clear he hcg hx Pc hrx hA2 GI Rf Gq GU NX Hb OA hle G1;go_wp2_with fail;refine JE.o.mono ?_;rintro e' w3⟨u3,rfl,UD,Gf⟩;obtain⟨A3,c3,eu3,_⟩:=eW UD;subst eu3;rw[<-HXL.o]at UD;have WG:Below wr.heap.size wr (w3.alloc (.cells #[.slice A3 (e-st) c3] 73)):=Gf.alloc (Nat.le_trans (Fm _) Gf.size) _;have hB34:Below w3.heap.size w3 (w3.alloc (.cells #[.slice A3 (e-st) c3] 73)):=(Below.refl _ _).alloc (Fm _) _;have hc4:(w3.alloc (.cells #[.slice A3 (e-st) c3] 73)).cell? ⟨w3.heap.size,0,none⟩=some (.slice A3 (e-st) c3):=Whole.cell (Whole.new _ _ _) 0;have Yd:=II.o.size;rw[HXL.o]at UD;have WI:=aj (aS UD Yd) (aa.below hB34 λ_=>False) (λ_ _ h=>h);have JF:=aj HOW.o (aa.below WG λ_=>False) (λ_ _ h=>h);have hi4:=λ(i:Nat) (u:Value) (x:List UInt8) h1 h2=>aj (Nu.o i u x h1 h2) (aa.below WG λ_=>False) (λ_ _ h=>h);have Qj:pk (w3.alloc (.cells #[.slice A3 (e-st) c3] 73)) g l:=(WG.block _ (Whole.lt Zs.o)).trans Zs.o;have Zw:Below w.heap.size w (w3.alloc (.cells #[.slice A3 (e-st) c3] 73)):=th II.o WG;have HS4:Hid (w.heap.size<=(w3.alloc (.cells #[.slice A3 (e-st) c3] 73)).heap.size):=Fh Zw.size;have HU4:=Fh WI;have Tv:=Fh JF;have HI4:=Fh hi4;have HN4:=Fh Qj;have IM:=Fh Zw;have L8:=Fh hc4;have KZ:k<=1000000:=by omega
   clear UD Gf WG hB34 hc4 Yd WI JF hi4 Qj Zw;go_wp2_with (at_builtin;refine po rfl _ _ rfl w.heap.size (.slice A7 k c7) k us rfl Tv.o w3.heap.size (.slice A3 (e-st) c3) rfl L8.o rfl KZ HS4.o ?_;intro v' w5 UE O3;have WJ:=Fh UE;have NT:=Fh O3;obtain⟨A5,c5,Lk⟩:=aw UE;subst Lk;clear UE O3);refine⟨⟨k+1,e,A5,c5,us++ [.slice A3 (e-st) c3],by omega,rfl,rfl,by go_num,Fh (by rw[List.getElem?_cons_succ];exact Pu.o),Fh ⟨by rw[List.length_append,Tu.o];rfl,WJ.o,λi u x' h1 h2=> ?_,?_,?_⟩⟩,by simp;omega⟩
   ·rcases Nat.lt_or_ge i k with VP|VP
    ·rw[List.getElem?_append_left (by rw[Tu.o];exact VP)]at h1;have h3:=HI4.o i u x' h1 h2;exact aj h3 NT.o λj hj e=>fq Tv.o h3 (by decide) hj e
    ·have UF:i=k:=by
      have:=(List.getElem?_eq_some_iff.1 h1).1;rw[List.length_append,Tu.o]at this;simp at this;omega
     subst UF;rw[List.getElem?_append_right (by rw[Tu.o];exact Fm _),Tu.o,Nat.sub_self,List.getElem?_cons_zero,Option.some.injEq]at h1;subst h1;rw[HCG.o,Option.some.injEq]at h2;subst h2;rw[HXL.o];exact aj HU4.o NT.o λj hj e=>fq Tv.o HU4.o (by decide) hj e
   ·exact(NT.o.block g (Whole.lt HN4.o) (λe=>Lib.ownBlock_ne Tv.o HN4.o (by decide) e)).trans HN4.o
   ·exact aa.F1 (S:=λj=>(Value.slice A7 k c7).ownBlock=some j) ((aa.below IM.o λj=>(Value.slice A7 k c7).ownBlock=some j).trans NT.o) (Fm _) λj hj hs=>absurd (aF Tv.o hs).1 (by omega)
  ·have KZ:k=n:=by omega
   subst KZ;obtain⟨Rf,Gq,GU,NX,Hb⟩:=HQ.o;have HX:=Fh (show bW w.heap.size wr (.slice A7 k c7) us (iV d 0 l)from⟨by rw[Iy,L0.o,Rf],by rw[Iy,L0.o];exact Gq,GU⟩);have II:=Fh Hb;clear Rf Gq GU NX Hb;go_wp2;go_ret2;exact⟨_,us,rfl,HX.o,II.o⟩
def Ri(w:World)(g n:Nat)(t:Tr):Prop:=∃cs,Whole w g 5 cs/\cs.size=n/\∀i,i<n->cs[i]? =some (.int .u8 (t.get i:Int))
theorem Ri.put{w:World}{g n:Nat}{t:Tr}(h:Ri w g n t){i:Nat}(hn:i<16000000)(v:Nat):Ri (w.setCell ⟨g,i,none⟩ (.int .u8 ((v%256:Nat):Int))) g n (t.put i v):=by
 obtain⟨cs,h1,h2,h3⟩:=h;refine⟨_,h1.put i _,by rw[Array.size_setIfInBounds];exact h2,λj hj=> ?_⟩;rw[Array.getElem?_setIfInBounds,Tr.Hy t v j hn];by_cases hij:i=j
 ·subst hij;rw[if_pos rfl,if_pos (by omega),if_pos rfl]
 ·rw[if_neg hij,if_neg (λe=>hij e.symm)];exact h3 j hj
theorem Ri.cell{w:World}{g n:Nat}{t:Tr}(h:Ri w g n t){i:Nat}(hi:i<n):w.cell? ⟨g,i,none⟩=some (.int .u8 (t.get i:Int)):=by
 obtain⟨cs,h1,h2,h3⟩:=h;rw[h1.cell,h3 i hi]
theorem Ri.frozen{w:World}{g n:Nat}{t:Tr}(h:Ri w g n t)(i:Nat):w.frozen? ⟨g,i,none⟩=false:=by
 obtain⟨cs,h1,_⟩:=h;exact h1.frozen i
theorem Ri.laid:∀(l:List UInt8) {w:World} {g n:Nat} {t:Tr} (h:Ri w g n t) (a:Nat),a+l.length<=n->n<16000000->Ri (w.setCells g a (l.map λx=>Value.int .u8 (x.toNat:Int))) g n (t.lay a l)/\aa (λk=>k=g) w (w.setCells g a (l.map λx=>Value.int .u8 (x.toNat:Int)))
 | [],w,g,n,t,h,a,_,_=>⟨h,aa.refl _ _⟩
 |x::l,w,g,n,t,h,a,hr,hn=>by
  rw[List.length_cons]at hr;have h1:=h.put (i:=a) (by omega) x.toNat;have hx:x.toNat<256:=x.toNat_lt;rw[Nat.mod_eq_of_lt hx]at h1;obtain⟨h2,k2⟩:=Ri.laid l h1 (a+1) (by omega) hn;rw[List.map_cons,World.setCells];exact⟨h2,((aa.refl (λk=>k=g) w).setCell (p:=⟨g,a,none⟩) (.inl rfl) _).trans k2⟩
theorem JW:∀(l:List UInt8) (t:Tr) (a m:Nat),a+l.length<=16000000->(t.lay a l).get m=if a<=m/\m<a+l.length then(l.getD (m-a) 0).toNat else t.get m
 | [],t,a,m,_=>by
  rw[if_neg (by simp only [List.length_nil];omega)];rfl
 |x::l,t,a,m,h=>by
  rw[List.length_cons]at h;rw[Tr.lay,JW l _ (a+1) m (by omega),Tr.Hy t _ m (by omega),List.length_cons];have hx:x.toNat<256:=x.toNat_lt;by_cases h1:m=a
  ·subst h1;rw[if_neg (by omega),if_pos rfl,if_pos (by omega),Nat.sub_self,Nat.mod_eq_of_lt hx];rfl
  ·by_cases h2:a+1<=m/\m<a+1+l.length
   ·rw[if_pos h2,if_pos (by omega),show m-a=(m-(a+1))+1 by omega];rfl
   ·rw[if_neg h2,if_neg h1,if_neg (by omega)]
theorem Cd(w:World)(n:Nat):Ri (w.alloc (.cells (madeCells #[.int .u8 0] n) 5)) w.heap.size n Tr.nil:=by
 refine⟨_,Whole.new w _ _,by simp[madeCells],λi hi=> ?_⟩;rw[Tr.get_nil];simp[madeCells,hi,Nat.mod_one]
theorem EG{w:World}{g M:Nat}{t:Tr}(h:Ri w g M t)(q c:Nat)(A:Option Addr)(x:List UInt8)(hr:aM w A (ay x))(h1:q+x.length<=M)(hM:M<16000000):
  ∃w',(∀ty,(Builtin.copy_ #[73,73] ty #[.slice (fD (some ⟨g,0,none⟩) M q 1) (M-q) (M-q),.slice A x.length c]).run prog w= .ok (goInt x.length) w')/\Ri w' g M (t.lay q x)/\aa (λk=>k=g) w w':=by
 by_cases hx:x.length=0
 ·have e:x= []:=List.length_eq_zero_iff.1 hx;subst e;refine⟨w,λty=> ?_,h,aa.refl _ _⟩;exact run_copy_none (P:=prog) w _ _ ty 5 _ _ _ _ _ _ underlying73 (by kernel_rfl) (by simp)
 ·have hv:∀(j:Nat) (y:UInt8),x[j]? =some y->(ay x)[j]? =some (.int .u8 (y.toNat:Int)):=λj y hy=>by
   unfold ay;rw[List.getElem?_map,hy];rfl
  obtain⟨b,o,rfl,-⟩:=hr 0 _ (hv 0 x[0] (by simp));obtain⟨h2,k2⟩:=h.laid x q h1 hM;refine⟨_,λty=> ?_,h2,k2⟩;rw[fD,if_neg (by omega)];have:=run_copy_cells (P:=prog) w 73 73 ty 5 g q (M-q) (M-q) ⟨b,o,none⟩ x.length c (x.map λx=>Value.int .u8 (x.toNat:Int)) underlying73 (by kernel_rfl) (by rw[List.length_map];exact(Nat.min_eq_left (by omega)).symm)
   (λj v hj=>by
    rw[List.getElem?_map]at hj;obtain⟨y,hy,rfl⟩:=Option.map_eq_some_iff.1 hj;obtain⟨b',o',e,hc⟩:=hr j _ (hv j y hy);injection e with e;injection e with e1 e2;subst e1 e2;rw[Addr.add_lit];exact hc)
   (λj hj=>by rw[List.length_map]at hj;rw[h.cell (i:=q+j) (by omega)];rfl) (λj hj=>h.frozen _) (λv hv=>by obtain⟨y,_,rfl⟩:=List.mem_map.1 hv;rfl)
  rw[List.length_map]at this;have e:(some (⟨g,0,none⟩:Addr)).map (·.add (q*1))=some ⟨g,q,none⟩:=by
   rw[Option.map_some,Addr.add_lit,Nat.mul_one,Nat.zero_add]
  rw[e];exact this
theorem NY:∀(l:List (List UInt8)),cZ l<480->cZ l=2*l.length+l.flatten.length
 | [],_=>rfl
 |x::r,h=>by
  have e:cZ (x::r)=(2+min x.length 480)+cZ r:=by simp[cZ]
  rw[e]at h⊢;rw[NY r (by omega),List.length_cons,List.flatten_cons,List.length_append];omega
theorem jF{l:List (List UInt8)}(h:(bS l).2=0):1<=l.length/\l.length<=16/\(bS l).1=2+2*l.length+l.flatten.length/\2+2*l.length+l.flatten.length<=480:=by
 unfold bS at h⊢;by_cases h1:l.length<1\/16<l.length
 ·rw[if_pos h1]at h;simp at h
 rw[if_neg h1]at h⊢;by_cases h2:480<2+cZ l
 ·rw[if_pos h2]at h;simp at h
 rw[if_neg h2];have:=NY l (by omega);exact⟨by omega,by omega,by show 2+cZ l=_;omega,by omega⟩
def dZ(l:List (List UInt8))(k:Nat):Nat:=(l.take k).flatten.length
theorem m9{l:List (List UInt8)}{k:Nat}(h:k<l.length):dZ l (k+1)=dZ l k+l[k].length:=by
 rw[dZ,dZ,List.take_succ_eq_append_getElem h,List.flatten_append,List.length_append];simp
theorem ti(l:List (List UInt8))(k:Nat):dZ l k<=l.flatten.length:=by
 have h:(l.take k).flatten++(l.drop k).flatten=l.flatten:=by rw[<-List.flatten_append,List.take_append_drop]
 rw[<-h,List.length_append];exact Nat.le_add_right _ _
def lh(l:List (List UInt8))(n k:Nat)(t:Tr):Prop:=t.get 0=n/\t.get 1=0/\(∀i,i<k->t.get (2+2*i)=dZ l (i+1)%256/\t.get (2+2*i+1)=dZ l (i+1)/256%256)/\∀(j:Nat) (x:UInt8),((l.take k).flatten)[j]? =some x->t.get (2+2*n+j)=x.toNat
theorem lh.next{l:List (List UInt8)}{n k:Nat}{t:Tr}(h:lh l n k t)(hk:k<l.length)(hn:l.length=n)(Jp:n<=16)(hs:2+2*n+l.flatten.length<=480):lh l n (k+1) (((t.lay (2+2*n+dZ l k) l[k]).put (2+2*k) (dZ l (k+1))).put (2+2*k+1) (dZ l (k+1)/256)):=by
 obtain⟨h0,h1,h2,h3⟩:=h;have ht:=ti l (k+1);have Tw:=m9 hk;have hg:∀m,(((t.lay (2+2*n+dZ l k) l[k]).put (2+2*k) (dZ l (k+1))).put (2+2*k+1) (dZ l (k+1)/256)).get m=if m=2+2*k+1 then dZ l (k+1)/256%256 else if m=2+2*k then dZ l (k+1)%256 else if 2+2*n+dZ l k<=m/\m<2+2*n+dZ l k+l[k].length then(l[k].getD (m-(2+2*n+dZ l k)) 0).toNat else t.get m:=λm=>by
  rw[Tr.Hy _ _ m (by omega),Tr.Hy _ _ m (by omega),JW _ _ _ _ (by omega)]
 refine⟨?_,?_,λi hi=> ?_,λj x hx=> ?_⟩
 ·rw[hg,if_neg (by omega),if_neg (by omega),if_neg (by omega)];exact h0
 ·rw[hg,if_neg (by omega),if_neg (by omega),if_neg (by omega)];exact h1
 ·rw[hg,hg];by_cases VP:i=k
  ·subst VP;rw[if_neg (by omega),if_pos rfl,if_pos rfl];exact⟨rfl,rfl⟩
  ·rw[if_neg (by omega),if_neg (by omega),if_neg (by omega),if_neg (by omega),if_neg (by omega),if_neg (by omega)];exact h2 i (by omega)
 ·rw[List.take_succ_eq_append_getElem hk,List.flatten_append]at hx;rw[hg,if_neg (by omega),if_neg (by omega)];by_cases hj:j<dZ l k
  ·rw[List.getElem?_append_left hj]at hx;rw[if_neg (by omega)];exact h3 j x hx
  ·rw[List.getElem?_append_right (by unfold dZ at hj;omega)]at hx;have e: [l[k]].flatten=l[k]:=by simp
   rw[e]at hx;have FR:=(List.getElem?_eq_some_iff.1 hx).1;unfold dZ at hj FR⊢;rw[if_pos (by omega),show 2+2*n+j-(2+2*n+(l.take k).flatten.length)=j-(l.take k).flatten.length by omega,List.getD_eq_getElem?_getD,hx];rfl
theorem NZ:∀(l:List (List UInt8)) (a i:Nat),i<l.length->(GO a l)[i]? =some (a+dZ l (i+1))
 | [],a,i,h=>by simp at h
 |x::l,a,0,h=>by simp[GO,dZ]
 |x::l,a,i+1,h=>by
  rw[GO,List.getElem?_cons_succ,NZ l _ i (by simpa using h)];simp[dZ,Nat.add_assoc]
theorem Lp:∀(l:List (List UInt8)) (a:Nat),(GO a l).length=l.length
 | [],a=>rfl
 |x::l,a=>by simp[GO,Lp l]
theorem RV:∀(es:List Nat) (i e:Nat),es[i]? =some e->(es.flatMap Qk)[2*i]? =some (UInt8.ofNat e)/\(es.flatMap Qk)[2*i+1]? =some (UInt8.ofNat (e/256))
 | [],i,e,h=>by simp at h
 |a::es,0,e,h=>by
  simp at h;subst h;simp[Qk]
 |a::es,i+1,e,h=>by
  have:=RV es i e (by simpa using h);rw[List.flatMap_cons,show 2*(i+1)=2*i+1+1 by omega];exact this
theorem OG:∀(es:List Nat),(es.flatMap Qk).length=2*es.length
 | []=>rfl
 |a::es=>by
  rw[List.flatMap_cons,List.length_append,OG es,List.length_cons];simp[Qk];omega
theorem kq(l:List (List UInt8)):(bU l).length=2+2*l.length+l.flatten.length:=by
 rw[bU,List.length_cons,List.length_cons,List.length_append,OG,Lp];omega
theorem lh.full{l:List (List UInt8)}{n:Nat}{t:Tr}(h:lh l n n t)(hn:l.length=n)(Jp:n<=16)(i:Nat)(hi:i<(bU l).length):∃y,(bU l)[i]? =some y/\y.toNat=t.get i:=by
 obtain⟨h0,h1,h2,h3⟩:=h;have hl:=kq l;rw[hl,hn]at hi;rw[bU]
 match i with
 |0=>exact⟨_,rfl,by rw[h0,hn,UInt8.toNat_ofNat'];omega⟩
 |1=>exact⟨_,rfl,by rw[h1];rfl⟩
 |i+2=>
  rw[List.getElem?_cons_succ,List.getElem?_cons_succ];have hE:((GO 0 l).flatMap Qk).length=2*n:=by rw[OG,Lp,hn]
  by_cases hi2:i<2*n
  ·rw[List.getElem?_append_left (by omega)];obtain⟨k,hk⟩:∃k,i=2*k\/i=2*k+1:=⟨i/2,by omega⟩;have hg:=NZ l 0 k (by omega);have Gg:=RV _ k _ hg;have hh:=h2 k (by omega);rw[Nat.zero_add]at Gg;rcases hk with rfl|rfl
   ·exact⟨_,Gg.1,by rw[UInt8.toNat_ofNat',Nat.add_comm (2*k) 2,hh.1]⟩
   ·exact⟨_,Gg.2,by rw[UInt8.toNat_ofNat',show 2*k+1+2=2+2*k+1 by omega,hh.2]⟩
  ·rw[List.getElem?_append_right (by omega),hE];have FR:i-2*n<l.flatten.length:=by omega
   refine⟨l.flatten[i-2*n],Fl FR,?_⟩;have:=h3 (i-2*n) _ (by rw[<-hn,List.take_length];exact Fl (by rw[hn];exact FR));rw[show i+2=2+2*n+(i-2*n)by omega,this];congr 1;simp[hn]
theorem DK(N:Nat->Prop)(A:Option Addr)(c:Nat)(l:List (List UInt8))(w:World)(hr:bG N w A l)(hv:(bS l).2=0):Calls prog 40 #[.slice A l.length c] w λe w'=>∃u,e= .returned (.tuple #[u,.int .i64 0])/\w'.ownsRow w.heap.size 5 1 u (bU l).length (ay (bU l))/\Below w.heap.size w w':=by
 obtain⟨n1,n2,hz,hM⟩:=jF hv;have Pc:∀x∈l,x.length<1099511627776:=λx hx=>by
  obtain⟨i,hi,rfl⟩:=List.getElem_of_mem hx;have h1:=m9 hi;have h2:=ti l (i+1);omega
 have Zy:=rO N A c l w (by omega) Pc hr;rw[hz,hv]at Zy;have LW:=Fh Zy;have HR:=Fh hr;obtain⟨n,hn⟩:=Fp l.length;obtain⟨M,hMM⟩:=Fp (2+2*l.length+l.flatten.length);rw[<-hMM]at LW hM;rw[<-hn]at LW n1 n2 hMM⊢;have HN:=Fh hn;have HMM:=Fh hMM;obtain⟨i0,hi,G9,G8,G7⟩:=info_parts Mf;have Ks:=run_make w 73 5 i0 (.int .u8 0) underlying73 hi G9 .i64 .i64 M M (by omega) (by omega) (by rw[G7];omega) (by omega);rw[G8,show(Value.int .u8 0).cells= #[.int .u8 0]from rfl]at Ks;simp only [Int.toNat_natCast,Nat.mul_one]at Ks;have Mh:=Cd w M;obtain⟨w1,FJ⟩:=Fp (w.alloc (.cells (madeCells #[.int .u8 0] M) 5));rw[<-FJ]at Ks Mh;have FN:Below w.heap.size w w1:=by rw[FJ];exact(Below.refl _ _).alloc (Fm _) _
 obtain⟨g,hg⟩:=Fp w.heap.size;rw[<-hg]at Ks Mh;have hM5:5<=M\/M<5:=by omega
 have m0:0<M:=by omega
 have x0:w1.cell? ⟨g,0,none⟩=some (.int .u8 0):=by rw[Mh.cell m0,Tr.get_nil];rfl
 have x1:w1.frozen? ⟨g,0,none⟩=false:=Mh.frozen 0;have IK:lh l n 0 (Tr.nil.put 0 n):=by
  refine⟨by rw[Tr.Hy _ _ _ (by omega),if_pos rfl];omega,by rw[Tr.Hy _ _ _ (by omega),if_neg (by omega),Tr.get_nil],λi hi=>absurd hi (Nat.not_lt_zero _),λj x hx=>by simp at hx⟩
 have Zz:=Mh.put (i:=0) (by omega) n;rw[Nat.mod_eq_of_lt (by omega)]at Zz;have HBY:=Fh Zz;have YZ:=Fh IK;have FF:Below w.heap.size w (w1.setCell ⟨g,0,none⟩ (.int .u8 (n:Int))):=aa.F1 (S:=λi=>i=g) ((aa.below FN (λi=>i=g)).setCell (p:=⟨g,0,none⟩) (.inl rfl) _) (Fm _) (λi hi e=>by omega);have Gx:=Fh FF;have HG:=Fh hg;have HW1:=Fh FJ;have v1:IntKind.u8.wrap (n:Int)=(n:Int):=by rw[IntKind.wrap_u8];omega
 obtain⟨p,hp⟩:=Fp (2+2*n);have v2:IntKind.i64.wrap (2*(n:Int))=2*(n:Int):=by rw[IntKind.wrap_i64];omega
 have v3:IntKind.i64.wrap (2+2*(n:Int))=(p:Int):=by rw[IntKind.wrap_i64];omega
 have HP:=Fh hp;clear Zy hr hz hv Pc hn hMM hi G9 G8 G7 Mh FJ FN hg IK Zz FF hp hM5;go_in;go_wp2_with fail;refine LW.o.mono ?_;rintro e w'⟨rfl,Fx⟩;have FL:=Fx.symm;subst FL;clear Fx;go_wp2_with fail
 go_loopw [8,9,10,11,34] (λs8 _ _ _ s34 wr=>∃(k q:Nat) (t:Tr),k<=n/\s8= .int .i64 q/\s34= .int .i64 k/\Hid (q=p+dZ l k)/\Hid (Ri wr g M t)/\Hid (lh l n k t)/\Hid (Below w.heap.size w wr)) (λ_ _ _ _ s34 wr=>match s34 with| .int _ m=>n-m.toNat|_=>0)
 case atStart=>exact⟨0,p,_,Nat.zero_le _,rfl,rfl,Fh rfl,HBY,YZ,Gx⟩
 case round=>
  obtain⟨k,q,t,hk,rfl,rfl,HQ,HT,HK,HB⟩:=hrel;by_cases FR:k<n
  ·have RW:k<l.length:=by have:=HN.o;omega
   have Gc:=HR.o.below HB.o;obtain⟨b,off,Au,cu,rfl,_,hc,T6,_⟩:=Gc k l[k] (by simp[RW]);have Tw:=m9 RW;have hle:=ti l (k+1);have hq:=HQ.o;have VQ:=HMM.o;have hpp:=HP.o;have Ke:=Fh (HK.o.next RW HN.o.symm n2 (by omega));obtain⟨e,he⟩:=Fp (dZ l (k+1));rw[<-he]at Ke Tw hle;rw[show 2+2*n+dZ l k=q by omega]at Ke;obtain⟨x,hx⟩:=Fp (l[k]);rw[<-hx]at Ke hc T6 Tw;obtain⟨w2,PD,FF,Jc⟩:=EG HT.o q cu Au x T6 (by omega) (by omega);have UC:=λW=>lI (P:=prog) underlying73 sizeOf5 (some ⟨g,0,none⟩) M M .i64 (q:Int) (by omega) (by omega) W;rw[show((q:Int)).toNat=q by omega]at UC;obtain⟨D,hD⟩:=Fp (fD (some ⟨g,0,none⟩) M q 1);rw[<-hD]at UC PD;obtain⟨xl,Pc⟩:=Fp x.length;rw[<-Pc]at hc PD Tw;obtain⟨q2,IH⟩:=Fp (q+xl);obtain⟨r,hr⟩:=Fp (2+2*k);obtain⟨r1,Gp⟩:=Fp (r+1);rw[<-hr,<-Gp]at Ke;have u1:IntKind.i64.wrap ((q:Int)+(xl:Int))=(q2:Int):=by rw[IntKind.wrap_i64];omega
   have u2:IntKind.i64.wrap ((q2:Int)-(p:Int))=(e:Int):=by rw[IntKind.wrap_i64];omega
   have u3:IntKind.i64.wrap (2*(k:Int))=2*(k:Int):=by rw[IntKind.wrap_i64];omega
   have u4:IntKind.i64.wrap (2+2*(k:Int))=(r:Int):=by rw[IntKind.wrap_i64];omega
   have u5:IntKind.i64.wrap ((r:Int)+1)=(r1:Int):=by rw[IntKind.wrap_i64];omega
   obtain⟨v8,WK⟩:=Fp (e%256);obtain⟨v9,hv9⟩:=Fp (e/256%256);have u6:IntKind.u8.wrap (e:Int)=(v8:Int):=by rw[IntKind.wrap_u8];omega
   have u7:IntKind.u8.wrap ((e:Int)/256)=(v9:Int):=by rw[IntKind.wrap_u8];omega
   have u8:(e:Int)/256%256=(v9:Int):=by omega
   have u9:(e:Int)%256=(v8:Int):=by omega
   have r2:r<M:=by omega
   have r3:r1<M:=by omega
   have y0:=FF.cell r2;have y1:=FF.cell r3;have z0:=FF.frozen r;have z1:=FF.frozen r1;have Gf:=(FF.put (i:=r) (by omega) e).put (i:=r1) (by omega) (e/256);rw[<-WK,<-hv9]at Gf;have M9:=Fh Gf;have Gk:=FF.put (i:=r) (by omega) e;rw[<-WK]at Gk;have y2:=Gk.cell r3;have z2:=Gk.frozen r1;have r4:(0:Int)<=(r:Int):=by omega
   have r5:(r:Int)<(M:Int):=by omega
   have r6:(r1:Int)<(M:Int):=by omega
   have hrr2:r1≠r:=by omega
   have HBE:=Fh (aa.F1 (S:=λi=>i=g) ((aa.below HB.o (λi=>i=g)).trans Jc) (Fm _) (λi hi e=>by have:=HG.o;omega));have Up:Hid (q2=p+e):=Fh (by omega);have HE:=Fh he;have hrr:r≠r1:=by omega
   clear RW Gc T6 Tw hle hq VQ hpp he hx hD Pc IH FF Jc Gf WK hv9 Gk hr Gp;go_wp2_with fail;refine⟨⟨k+1,q2,_,by omega,rfl,by go_num,Fh (by rw[<-HE.o];exact Up.o),M9,Ke,Fh ?_⟩,by simp;omega⟩;exact aa.F1 (S:=λi=>i=g) (((aa.below HBE.o (λi=>i=g)).setCell (p:=⟨g,r,none⟩) (.inl rfl) _).setCell (p:=⟨g,r1,none⟩) (.inl rfl) _) (Fm _) (λi hi e=>by have:=HG.o;omega)
  ·have KZ:k=n:=by omega
   subst KZ;have Ho:(bU l).length=M:=by rw[kq,HMM.o,HN.o]
   have Gh:wr.ownsRow w.heap.size 5 1 (.slice (some ⟨g,0,none⟩) M M) (bU l).length (ay (bU l)):=by
    obtain⟨cs,h1,h2,h3⟩:=HT.o;rw[Ho];refine⟨by unfold ay;rw[List.length_map,Ho,Nat.mul_one],.inr ⟨g,M,cs,rfl,by rw[HG.o];exact Fm _,h1,Fm _,by unfold maxLen;omega,by rw[h2,Nat.mul_one],?_⟩⟩;refine List.ext_getElem? λi=> ?_;have e3:(ay (bU l))[i]? =((bU l)[i]?).map λx=>Value.int .u8 (x.toNat:Int):=by
     unfold ay;rw[List.getElem?_map]
    rw[e3];by_cases hi:i<M
    ·obtain⟨y,hy1,Lq⟩:=HK.o.full HN.o.symm n2 i (by rw[Ho];exact hi);rw[List.getElem?_take_of_lt (by omega),Array.getElem?_toList,h3 i hi,hy1,<-Lq];rfl
    ·rw[List.getElem?_eq_none (by rw[List.length_take];omega),List.getElem?_eq_none (by omega)];rfl
   have HX:=Fh Gh;clear Ho Gh;go_wp2;go_ret2;exact⟨_,rfl,HX.o,HB.o⟩
end Go.Proofs.YtifkphcaelafjaaGreatDoor
