/-
  Lemmas on the way to the row. No condition beyond their own.
-/
import Derived.Deep.AppendLies
import Derived.Deep.RegionLaw
import Derived.Test.YtifkphcaelafjaaGreatDoorQ02
set_option maxHeartbeats 25600000
set_option maxRecDepth 100000
set_option linter.unusedVariables false
set_option linter.unusedSimpArgs false
namespace Go.Proofs.YtifkphcaelafjaaGreatDoor
open Tryz
open Go.RowKit Go.Colm Go.FC Go.Maps
@[go_sem] theorem EV(x y:Int)(W:World):(Instr.field 31 (.agg #[.int .i64 x,.int .i64 y]) 0).run prog W= .ok (.int .i64 x) W:=by
 simp[Instr.field,run_underlying underlying31,go_sem,part,asAgg]
@[go_sem] theorem EW(x y:Int)(W:World):(Instr.field 31 (.agg #[.int .i64 x,.int .i64 y]) 1).run prog W= .ok (.int .i64 y) W:=by
 simp[Instr.field,run_underlying underlying31,go_sem,part,asAgg]
section
variable{O:av}{μ:Mm}{w:World}
theorem ao.cf(h:ao O μ w):7<=μ.Fq/\μ.Fq<=64/\μ.slots<=8192/\μ.Fq*32<=μ.slots:=by
 obtain⟨h1,h2,h3,h4,h5⟩:=bB.1 h.ok;exact⟨h1,h2,h5,h4⟩
theorem gX(h:ao O μ w):Calls prog 129 #[.pointer (some ⟨O.mb,0,none⟩)] w λe w'=>e= .returned (.bool true)/\Below w.heap.size w w':=by
 have HC:=Fh (aD h);have h1:=h.cf.1;obtain⟨a,ha⟩:=Fp μ.Fq;rw[<-ha]at HC h1;have e1:decide ((0:Int)<(a:Int))=true:=by simp;omega
 have e2:decide (0<a)=true:=by simp;omega
 have e3:0<a:=by omega
 clear h ha;go_in;go_wp2_with fail;refine HC.o.mono ?_;rintro e w1⟨rfl,hb⟩;go_wp2;go_ret;exact⟨rfl,hb⟩
theorem oO{a b kind v:Nat}(h:μ.ld a b kind=some v):v<256^b:=by
 rw[(sN h).2];exact Tr.RC _ _ _
theorem aU{f v:Nat}(h:μ.root f=some v)(hf:f≠16):v<4294967296:=by
 have:=oO h;rw[Mm.Gl,if_neg hf]at this;exact this
theorem j5(h:ao O μ w)(c v:Nat)(hc:c<10)(hv:μ.root (3+c)=some v):Calls prog 131 #[.pointer (some ⟨O.mb,0,none⟩),.int .i64 (c:Int)] w λe w'=>e= .returned (.int .i64 (v:Int))/\MG O w μ w':=by
 have hr:=gj h (3+c) v (by omega) hv;rw[show((3+c:Nat):Int)=3+(c:Int)by omega]at hr;have HR:=Fh hr;have F0:=aU hv (by omega);clear h hv hr;go_in;go_wp2_with fail;refine HR.o.mono ?_;rintro e w1⟨rfl,hg⟩;go_wp2;go_ret;exact⟨rfl,hg⟩
theorem gY{s off b v:Nat}{μ':Mm}(h:dQ s off b v μ=some μ'):s<μ.Fq/\μ.st (128+s*16+off) b 3 v=some μ':=by
 unfold dQ at h;split at h
 ·exact⟨by assumption,h⟩
 ·cases h
theorem Dv{s off b v:Nat}{μ':Mm}(h:dQ s off b v μ=some μ'):v<256^b:=(eY (gY h).2).2.1
theorem fg(h:ao O μ w)(s off b v:Nat)(μ':Mm)(ho:off<=16)(hv:dQ s off b v μ=some μ'):Calls prog 231 #[.pointer (some ⟨O.mb,0,none⟩),.int .i64 (s:Int),.int .i64 (off:Int),.int .i64 (b:Int),.int .u64 (v:Int)] w λe w'=>e= .returned (.tuple #[])/\MG O w μ' w':=by
 obtain⟨hs,Hz⟩:=gY hv;have HC:=Fh (aD h);have HH:=Fh (λW (hb:Below w.heap.size w W)=>oE μ.Fq μ.slots s W (h.env.below hb).Hk h.ok hs);have hm:=λW (hg:MG O w μ W)=>fo hg.has (128+s*16+off) b 3 v μ' Hz;have h64:=h.cf.2.1;rw[show((128+s*16+off:Nat):Int)=128+(s:Int)*16+(off:Int)by omega]at hm;simp only [show((128+s*16:Nat):Int)=128+(s:Int)*16 by omega]at HH;have HM:=Fh hm;have HG:=Fh (MG.refl h);have Si:s<64:=by omega
 clear h hv Hz hm hs h64;go_in;go_wp2_with fail;refine HC.o.mono ?_;rintro e w1⟨rfl,FN⟩;have GH:=Fh FN;clear FN;go_wp2_with fail;refine(HH.o _ GH.o).mono ?_;rintro e w2⟨rfl,FF⟩;have FK:=Fh (HG.o.below (ah GH.o FF));clear FF;go_wp2_with fail;refine(HM.o _ FK.o).mono ?_;rintro e w3⟨rfl,FZ⟩;have FT:=Fh (FK.o.trans FZ);clear FZ;go_wp2;go_end0;exact⟨rfl,FT.o⟩
theorem rm(h:ao O μ w)(c prev next:Nat)(μ':Mm)(hc:c<10)(hp:prev<4294967296)(hv:fy c prev next μ=some μ'):Calls prog 232 #[.pointer (some ⟨O.mb,0,none⟩),.int .i64 (c:Int),.int .i64 (prev:Int),.int .i64 (next:Int)] w λe w'=>e= .returned (.tuple #[])/\MG O w μ' w':=by
 unfold fy at hv;by_cases h0:0<prev
 ·rw[if_pos h0]at hv;have hn:next<4294967296:=Dv hv;have hl:=fg h (prev-1) 8 4 next μ' (by omega) hv;rw[show((prev-1:Nat):Int)=(prev:Int)-1 by omega]at hl;have HL:=Fh hl;clear h hv hl;go_in;go_wp2_with fail;refine HL.o.mono ?_;rintro e w1⟨rfl,hg⟩;go_wp2_with fail;refine bodyPost_ret (results_none rfl _ _ _) rfl ?_;exact⟨rfl,hg⟩
 ·rw[if_neg h0]at hv;have hr:=bf h (3+c) next μ' (by omega) hv;have hn:next<4294967296:=by
   have:=(eY hv).2.1;rw[Mm.Gl,if_neg (by omega)]at this;exact this
  rw[show((3+c:Nat):Int)=3+(c:Int)by omega]at hr;have HR:=Fh hr;clear h hv hr;go_in;go_wp2_with fail;refine HR.o.mono ?_;rintro e w1⟨rfl,hg⟩;go_wp2;go_end0;exact⟨rfl,hg⟩
theorem uj(h:ao O μ w)(c s prev next:Nat)(μ':Mm)(hc:c<10)(hp:prev<4294967296)(hn:next<4294967296)(hv:nK c s prev next μ=some μ'):Calls prog 130 #[.pointer (some ⟨O.mb,0,none⟩),.int .i64 (c:Int),.int .i64 (s:Int),.int .i64 (prev:Int),.int .i64 (next:Int)] w λe w'=>e= .returned (.tuple #[])/\MG O w μ' w':=by
 unfold nK at hv;obtain⟨μ1,h1,hv⟩:=Fi hv;obtain⟨μ2,h2,hv⟩:=Fi hv;obtain⟨μ3,h3,hv⟩:=Fi hv;have hs:=(gY h1).1;have h64:=h.cf.2.1;have Si:s<64:=by omega
 have HL1:=Fh (fg h s 12 4 prev μ1 (by omega) h1);have TX:=Fh (λW (hg:MG O w μ1 W)=>fg hg.has s 8 4 next μ2 (by omega) h2);have XI:=Fh (λW (hg:MG O w μ3 W)=>rm hg.has c prev (s+1) μ' hc hp hv);simp only [show((s+1:Nat):Int)=(s:Int)+1 by omega]at XI;by_cases h0:0<next
 ·rw[if_pos h0]at h3;have hl:=λW (hg:MG O w μ2 W)=>fg hg.has (next-1) 12 4 (s+1) μ3 (by omega) h3;simp only [show((s+1:Nat):Int)=(s:Int)+1 by omega,show((next-1:Nat):Int)=(next:Int)-1 by omega]at hl;have HL3:=Fh hl;clear h hv h1 h2 h3 hl hs h64;go_in;go_wp2_with fail;refine HL1.o.mono ?_;rintro e w1⟨rfl,Gz⟩;have FA:=Fh Gz;clear Gz;go_wp2_with fail;refine(TX.o _ FA.o).mono ?_;rintro e w2⟨rfl,Gg⟩;have FK:=Fh (FA.o.trans Gg);clear Gg;go_wp2_with fail;refine(HL3.o _ FK.o).mono ?_;rintro e w3⟨rfl,FZ⟩;have FT:=Fh (FK.o.trans FZ);clear FZ;go_wp2_with fail;refine(XI.o _ FT.o).mono ?_;rintro e w4⟨rfl,F9⟩;have FW:=Fh (FT.o.trans F9);clear F9;go_wp2;go_end0;exact⟨rfl,FW.o⟩
 ·rw[if_neg h0]at h3;obtain rfl:=Fk h3;clear h hv h1 h2 h3 hs h64;go_in;go_wp2_with fail;refine HL1.o.mono ?_;rintro e w1⟨rfl,Gz⟩;have FA:=Fh Gz;clear Gz;go_wp2_with fail;refine(TX.o _ FA.o).mono ?_;rintro e w2⟨rfl,Gg⟩;have FK:=Fh (FA.o.trans Gg);clear Gg;go_wp2_with fail;refine(XI.o _ FK.o).mono ?_;rintro e w4⟨rfl,F9⟩;have FW:=Fh (FK.o.trans F9);clear F9;go_wp2;go_end0;exact⟨rfl,FW.o⟩
end
section
variable{O:av}{μ:Mm}{w:World}
theorem oP{c k:Nat}{m m':Mm}(h:fm c (k+1) m=some m'):∃m1,m.FG (3+c) 0=some m1/\fm (c+1) k m1=some m':=Fi h
theorem n6{k:Nat}{m m':Mm}(h:Hv (k+1) m=some m'):∃f m1,m.root 3=some f/\nK 0 k 0 f m=some m1/\Hv k m1=some m':=by
 obtain⟨f,h1,h2⟩:=Fi h;obtain⟨m1,h3,h4⟩:=Fi h2;exact⟨f,m1,h1,h3,h4⟩
theorem zp(h:ao O μ w)(μ':Mm)(hv:gg μ=some μ'):Calls prog 69 #[.pointer (some ⟨O.mb,0,none⟩)] w λe w'=>e= .returned (.int .i64 0)/\MG O w μ' w':=by
 unfold gg at hv;obtain⟨μ1,h1,hv⟩:=Fi hv;obtain⟨μ2,h2,hv⟩:=Fi hv;have HMADE:=Fh (gX h);have HC:=Fh (λW (hb:Below w.heap.size w W)=>aD (h.below hb));have GN:=h.cf.1;have KQ:=h.cf.2.1;have hz:=λW (hb:Below w.heap.size w W)=>lL (h.below hb) 128 (μ.Fq*16) 3 μ1 (by omega) h1;simp only [show((μ.Fq*16:Nat):Int)=(μ.Fq:Int)*16 by omega]at hz;have HZ:=Fh hz;have FE:=Fh (MG.refl h);have H2:=Fh h2;have HV:=Fh hv;obtain⟨n,hn⟩:=Fp μ.Fq;rw[<-hn]at HC HZ HV GN KQ;clear h h1 h2 hv hz hn;go_in;go_wp2_with fail;refine HMADE.o.mono ?_;rintro e w1⟨rfl,FN⟩;have GH:=Fh FN;clear FN;go_wp2_with fail;refine(HC.o _ GH.o).mono ?_;rintro e w2⟨rfl,FF⟩;have Gx:=Fh (ah GH.o FF);clear FF;go_wp2_with fail;refine(HZ.o _ Gx.o).mono ?_;rintro e w3⟨rfl,FZ⟩;have FT:Hid (MG O w μ1 w3):=Fh (MG.after Gx.o FZ);clear FZ;go_wp2_with fail
 go_loopw [4,16] (λ_ s16 wr=>∃(j:Nat) (m:Mm),j<=10/\s16= .int .i64 j/\Hid (fm j (10-j) m=some μ2)/\Hid (MG O w m wr)) (λ_ s16 _=>match s16 with| .int _ m=>10-m.toNat|_=>0)
 case atStart=>exact⟨0,μ1,by omega,rfl,H2,FT⟩
 case round=>
  obtain⟨j,m,hj,rfl,HN,HG⟩:=hrel;by_cases FR:j<10
  ·have hN:=HN.o;rw[show 10-j=(10-(j+1))+1 by omega]at hN;obtain⟨m1,e1,e2⟩:=oP hN;have hr:=bf HG.o.has (3+j) 0 m1 (by omega) e1;rw[show((3+j:Nat):Int)=3+(j:Int)by omega,show((0:Nat):Int)=0 from rfl]at hr;have HR:=Fh hr;have VD:Hid (fm (j+1) (10-(j+1)) m1=some μ2):=Fh e2;clear hN e1 e2 hr;go_wp2_with fail;refine HR.o.mono ?_;rintro e w4⟨rfl,F9⟩;have FW:=Fh (HG.o.trans F9);clear F9;go_wp2;go_roundw
   case rel=>exact⟨j+1,m1,by omega,by go_num,VD,FW⟩
   case measure=>simp;omega
  ·have hj10:j=10:=by omega
   have V1:Hid (MG O w μ2 wr):=Fh (by
    have hN:=HN.o;rw[hj10]at hN;have e:=Fk hN;rw[<-e];exact HG.o)
   subst hj10;clear HN HG;rw[show((10:Nat):Int)=10 from rfl];go_wp2_with fail
   go_loopw [5,25] (λ_ s25 wz=>∃(i:Nat) (m:Mm),i<=n/\s25= .int .i64 i/\Hid (Hv (n-i) m=some μ')/\Hid (MG O w m wz)) (λ_ s25 _=>match s25 with| .int _ m=>n-m.toNat|_=>0)
   case atStart=>exact⟨0,μ2,Nat.zero_le _,rfl,HV,V1⟩
   case round=>
    obtain⟨i,m,hi,rfl,HN,HG⟩:=hrel;by_cases hlt2:i<n
    ·have hN:=HN.o;rw[show n-i=(n-(i+1))+1 by omega]at hN;obtain⟨f,m1,e0,e1,e2⟩:=n6 hN;have HF:=Fh (j5 HG.o.has 0 f (by omega) e0);have hf:f<4294967296:=aU e0 (by decide);have hl:=λW (hg:MG O w m W)=>uj hg.has 0 (n-(i+1)) 0 f m1 (by omega) (by omega) hf e1;simp only [show((n-(i+1):Nat):Int)=(n:Int)-1-(i:Int)by omega]at hl;have HL:=Fh hl;have VD:Hid (Hv (n-(i+1)) m1=some μ'):=Fh e2;clear hN e0 e1 e2 hl;go_wp2_with fail;refine HF.o.mono ?_;rintro e w4⟨rfl,F9⟩;have FW:=Fh (HG.o.trans F9);clear F9;go_wp2_with fail;refine(HL.o _ FW.o).mono ?_;rintro e w5⟨rfl,IB⟩;have Gj:=Fh (FW.o.trans IB);clear IB;go_wp2;go_roundw
     case rel=>exact⟨i+1,m1,by omega,by go_num,VD,Gj⟩
     case measure=>simp;omega
    ·have GU:i=n:=by omega
     have HM3:Hid (MG O w μ' wr):=Fh (by
      have hN:=HN.o;rw[GU,Nat.sub_self]at hN;have e:=Fk hN;rw[<-e];exact HG.o)
     clear HN HG;go_wp2;go_ret;exact⟨rfl,HM3.o⟩
end
section
variable{O:av}{μ:Mm}{w:World}
theorem rp(h:ao O μ w):Calls prog 70 #[.pointer (some ⟨O.mb,0,none⟩)] w λe w'=>e= .returned (.bool true)/\Below w.heap.size w w':=by
 have HC:=Fh (aD h);have h1:=h.cf.1;have z:¬((μ.Fq:Int)=0):=by omega
 have z2:¬(μ.Fq=0):=by omega
 clear h h1;go_in;go_wp2_with fail;refine HC.o.mono ?_;rintro e w1⟨rfl,hb⟩;go_wp2;go_ret;exact⟨rfl,hb⟩
theorem fp(h:ao O μ w):Calls prog 78 #[.pointer (some ⟨O.mb,0,none⟩)] w λe w'=>e= .returned (.bool true)/\Below w.heap.size w w':=by
 have HC:=Fh (aD h);have h1:=h.cf.1;have z:¬((μ.Fq:Int)=0):=by omega
 have z2:¬(μ.Fq=0):=by omega
 clear h h1;go_in;go_wp2_with fail;refine HC.o.mono ?_;rintro e w1⟨rfl,hb⟩;go_wp2;go_ret;exact⟨rfl,hb⟩
theorem zq(h:ao O μ w)(μ':Mm)(hv:gg μ=some μ'):Calls prog 30 #[.pointer (some ⟨O.mb,0,none⟩)] w λe w'=>e= .returned (.int .i64 0)/\MG O w μ' w':=by
 have HL:=Fh (zp h μ' hv);clear h hv;go_in;go_wp2_with fail;refine HL.o.mono ?_;rintro e w1⟨rfl,hg⟩;go_wp2;go_ret;exact⟨rfl,hg⟩
theorem zr(h:ao O μ w)(μ':Mm)(hv:μ.FG 17 0=some μ'):Calls prog 33 #[.pointer (some ⟨O.mb,0,none⟩)] w λe w'=>e= .returned (.int .i64 0)/\MG O w μ' w':=by
 have HM:=Fh (fp h);have HS:=Fh (λW (hb:Below w.heap.size w W)=>bf (h.below hb) 17 0 μ' (by omega) hv);clear h hv;go_in;go_wp2_with fail;refine HM.o.mono ?_;rintro e w1⟨rfl,hb⟩;have HB:=Fh hb;clear hb;go_wp2_with fail;refine(HS.o _ HB.o).mono ?_;rintro e w2⟨rfl,hg⟩;have HG:=Fh (MG.after HB.o hg);clear hg;go_wp2;go_ret;exact⟨rfl,HG.o⟩
theorem zt(h:ao O μ w)(μ':Mm)(hv:μ.FG 16 0=some μ'):Calls prog 34 #[.pointer (some ⟨O.mb,0,none⟩)] w λe w'=>e= .returned (.int .i64 0)/\MG O w μ' w':=by
 have HC:=Fh (aD h);have HS:=Fh (λW (hb:Below w.heap.size w W)=>bf (h.below hb) 16 0 μ' (by omega) hv);have h1:=h.cf.1;have z:¬((μ.Fq:Int)=0):=by omega
 have z2:¬(μ.Fq=0):=by omega
 clear h h1 hv;go_in;go_wp2_with fail;refine HC.o.mono ?_;rintro e w1⟨rfl,hb⟩;have HB:=Fh hb;clear hb;go_wp2_with fail;refine(HS.o _ HB.o).mono ?_;rintro e w2⟨rfl,hg⟩;have HG:=Fh (MG.after HB.o hg);clear hg;go_wp2;go_ret;exact⟨rfl,HG.o⟩
theorem jt(mb:Nat)(w:World):Calls prog 132 #[.pointer (some ⟨mb,0,none⟩)] w λe w'=>e= .returned (.agg #[.pointer (some ⟨mb,0,none⟩),.int .i64 13])/\Below w.heap.size w w':=by
 go_in;go_wp2_with fail;refine bodyPost_ret (results_cell_row rfl _ _ w.heap.size 133 _ (0,0) _ rfl (Whole.new w _ _) underlying133 rfl (by kernel_rfl)) rfl ?_;exact⟨rfl,(Below.refl _ _).alloc (Fm _) _⟩
theorem rq(mb:Nat)(w:World):Calls prog 133 #[.pointer (some ⟨mb,0,none⟩)] w λe w'=>e= .returned (.agg #[.pointer (some ⟨mb,0,none⟩),.int .i64 14])/\Below w.heap.size w w':=by
 go_in;go_wp2_with fail;refine bodyPost_ret (results_cell_row rfl _ _ w.heap.size 133 _ (0,0) _ rfl (Whole.new w _ _) underlying133 rfl (by kernel_rfl)) rfl ?_;exact⟨rfl,(Below.refl _ _).alloc (Fm _) _⟩
end
section
variable{O:av}{μ:Mm}{w:World}
theorem oQ(mb:Nat)(w:World):Calls prog 71 #[.pointer (some ⟨mb,0,none⟩)] w λe w'=>∃g,e= .returned (.slice (some ⟨g,0,none⟩) 2 2)/\w.heap.size<=g/\Whole w' g 133 #[.pointer (some ⟨mb,0,none⟩),.int .i64 13,.pointer (some ⟨mb,0,none⟩),.int .i64 14]/\Below w.heap.size w w':=by
 go_in;go_wp2_with fail;refine(jt mb _).mono ?_;rintro e w1⟨rfl,FN⟩;have GH:=Fh FN;clear FN;go_wp2_with fail;refine(rq mb _).mono ?_;rintro e w2⟨rfl,FF⟩;have Gx:=Fh (ah GH.o FF);clear FF;go_wp2;go_ret;exact⟨_,rfl,Gx.o.size,Whole.new w2 _ _,ah Gx.o ((Below.refl _ _).alloc (Fm _) _)⟩
theorem iG(h:ao O μ w)(f v:Nat)(μ':Mm)(hf:f<21)(IT:f≠16)(hv:μ.FG f v=some μ'):Calls prog 72 #[.agg #[.pointer (some ⟨O.mb,0,none⟩),.int .i64 (f:Int)],.int .i64 (v:Int)] w λe w'=>e= .returned (.tuple #[])/\MG O w μ' w':=by
 have F0:v<4294967296:=by
  have:=(eY hv).2.1;rw[Mm.Gl,if_neg IT]at this;exact this
 obtain⟨w0,Fx⟩:=Fp (w.alloc (.cells #[.pointer (some ⟨O.mb,0,none⟩),.int .i64 (f:Int)] 133));have FM:Below w.heap.size w w0:=by rw[Fx];exact(Below.refl _ w).alloc (Fm _) _
 have Gd:Whole w0 w.heap.size 133 #[.pointer (some ⟨O.mb,0,none⟩),.int .i64 (f:Int)]:=by rw[Fx];exact Whole.new w _ _
 have x0:=Gd.cell 0;have x1:=Gd.cell 1;simp only [List.getElem?_toArray,List.getElem?_cons_zero,List.getElem?_cons_succ]at x0 x1;have HS:=Fh (bf (h.below FM) f v μ' hf hv);have GW:=Fh FM;clear h FM Gd hv hf IT;go_in;go_upto_region 1 with fail;rw[<-Fx];clear Fx;go_wp2_with fail;refine HS.o.mono ?_;rintro e w1⟨rfl,hg⟩;go_wp2;go_end0;exact⟨rfl,MG.after GW.o hg⟩
theorem zu(h:ao O μ w)(μ':Mm)(hv:kQ μ=some μ'):Calls prog 31 #[.pointer (some ⟨O.mb,0,none⟩)] w λe w'=>e= .returned (.int .i64 0)/\MG O w μ' w':=by
 unfold kQ at hv;obtain⟨μ1,h1,hv⟩:=Fi hv;obtain⟨μ2,h2,h3⟩:=Fi hv;have HM:=Fh (rp h);have HBO:=Fh (λW=>oQ O.mb W);have HH:=Fh h;have H1:=Fh h1;have H2:=Fh h2;have H3:=Fh h3;clear h h1 h2 h3 hv;go_in;go_wp2_with fail;refine HM.o.mono ?_;rintro e w1⟨rfl,FN⟩;have GH:=Fh FN;clear FN;go_wp2_with fail;refine(HBO.o _).mono ?_;rintro e w2⟨g,rfl,YP,Kt,FF⟩;have Gx:=Fh (ah GH.o FF);have FE:Hid (MG O w μ w2):=Fh (MG.below (MG.refl HH.o) Gx.o);have Sk:=Fh Kt;have HNG:Hid (∀k,au O k->k≠g):=Fh (λk hk e=>by
  have:k<w1.heap.size:=by
   have h1:=HH.o.below GH.o;rcases hk with rfl|rfl|rfl
   ·exact h1.lt (.inr (.inl rfl))
   ·exact h1.lt (.inr (.inr (.inr (.inl rfl))))
   ·exact h1.lt (.inr (.inr (.inr (.inr (.inl rfl)))))
  omega)
 clear YP Kt FF;go_wp2_with fail
 go_loopw [4,11] (λ_ La wr=>∃(i:Nat) (m:Mm),i<=2/\La= .int .i64 i/\Hid (m=if i=0 then μ else if i=1 then μ1 else μ2)/\Hid (MG O w m wr)/\Hid (aa (au O) w2 wr)) (λ_ La _=>match La with| .int _ m=>2-m.toNat|_=>0)
 case atStart=>exact⟨0,μ,by omega,rfl,Fh rfl,FE,Fh (aa.refl _ _)⟩
 case round=>
  obtain⟨i,m,hi,rfl,HE,HG,HK⟩:=hrel;have hw:=HK.o.whole Sk.o λhk=>HNG.o g hk rfl;have hcs:i=0\/i=1\/i=2:=by omega
  rcases hcs with rfl|rfl|rfl
  ·have d0:=hw.cell 0;have d1:=hw.cell 1;simp only [List.getElem?_toArray,List.getElem?_cons_zero,List.getElem?_cons_succ]at d0 d1;have em:m=μ:=HE.o;subst em;obtain⟨w3,F7⟩:=Fp (wr.alloc (.cells #[.pointer (some ⟨O.mb,0,none⟩),.int .i64 13] 133));have Gf:Below wr.heap.size wr w3:=by rw[F7];exact(Below.refl _ _).alloc (Fm _) _
   have hp:=iG (HG.o.has.below Gf) 13 0 μ1 (by omega) (by omega) H1.o;have M9:=Fh Gf;rw[F7]at hp;have HP:=Fh hp;have HW3:=Fh F7;clear hp hw Gf F7;go_wp2_with fail;refine HP.o.mono ?_;rintro e w4⟨rfl,F9⟩;rw[<-HW3.o]at F9;have FW:=Fh ((HG.o.below M9.o).trans F9);have QL:=Fh ((HK.o.trans (aa.below M9.o _)).trans F9.kept);clear F9;go_wp2;go_roundw
   case rel=>exact⟨1,μ1,by omega,rfl,Fh rfl,FW,QL⟩
   case measure=>simp
  ·have d0:=hw.cell 2;have d1:=hw.cell 3;simp only [List.getElem?_toArray,List.getElem?_cons_zero,List.getElem?_cons_succ]at d0 d1;have em:m=μ1:=HE.o;subst em;obtain⟨w3,F7⟩:=Fp (wr.alloc (.cells #[.pointer (some ⟨O.mb,0,none⟩),.int .i64 14] 133));have Gf:Below wr.heap.size wr w3:=by rw[F7];exact(Below.refl _ _).alloc (Fm _) _
   have hp:=iG (HG.o.has.below Gf) 14 0 μ2 (by omega) (by omega) H2.o;have M9:=Fh Gf;rw[F7]at hp;have HP:=Fh hp;have HW3:=Fh F7;clear hp hw Gf F7;go_wp2_with fail;refine HP.o.mono ?_;rintro e w4⟨rfl,F9⟩;rw[<-HW3.o]at F9;have FW:=Fh ((HG.o.below M9.o).trans F9);have QL:=Fh ((HK.o.trans (aa.below M9.o _)).trans F9.kept);clear F9;go_wp2;go_roundw
   case rel=>exact⟨2,μ2,by omega,rfl,Fh rfl,FW,QL⟩
   case measure=>simp
  ·have em:m=μ2:=HE.o;subst em;have HS:=Fh (bf HG.o.has 15 0 μ' (by omega) H3.o);clear hw;go_wp2_with fail;refine HS.o.mono ?_;rintro e w4⟨rfl,F9⟩;have FW:=Fh (HG.o.trans F9);clear F9;go_wp2;go_ret;exact⟨rfl,FW.o⟩
end
section
variable{O:av}{μ:Mm}{w:World}
theorem Bn(h:ao O μ w)(a n:Nat)(ha:a<1099511627776)(hn:n<1099511627776)(hr:μ.size<a+n):Calls prog 230 #[.pointer (some ⟨O.wb,0,none⟩),.int .i64 (a:Int),.int .i64 (n:Int)] w λe w'=>e= .returned (.bool false)/\w'=w:=by
 have hz:=h.sz;have HS:=Fh (xN h.wa (by omega));obtain⟨z,G8⟩:=Fp (4*(μ.size/4));have z1:z=μ.size:=by omega
 rw[<-G8]at HS;have z2:z<=200000:=by omega
 have hr:z<a+n:=by omega
 clear hz G8 z1 h;go_in;go_wp2_with fail;refine HS.o.mono ?_;rintro e w1⟨rfl,rfl⟩;by_cases h1:a<=z
 ·go_wp2_with fail;refine HS.o.mono ?_;rintro e w2⟨rfl,rfl⟩;go_wp2;go_ret;exact⟨aq (by simp<;>omega),rfl⟩
 ·go_wp2;go_ret;exact⟨aq (by simp<;>omega),rfl⟩
theorem Bo(h:ao O μ w)(a n:Nat)(ha:a<1099511627776)(hn:n<1099511627776)(NV:1<=n)(hr:μ.size<a+n):Calls prog 324 #[.pointer (some ⟨O.wb,0,none⟩),.int .i64 (a:Int),.int .i64 (n:Int)] w λe w'=>e= .returned (.int .i64 0)/\w'=w:=by
 have HN:=Fh (jU h);have HF:=Fh (Bn h a n ha hn hr);clear h hr;go_in;go_wp2_with fail;go_step3;go_wp2_with fail;refine HN.o.mono ?_;rintro e w1⟨rfl,rfl⟩;go_wp2_with fail;refine HF.o.mono ?_;rintro e w2⟨rfl,rfl⟩;go_wp2_with fail;rw[Exit.noGoto_ret];go_ret;exact⟨rfl,rfl⟩
theorem j6(h:ao O μ w)(a n:Nat)(ha:a<1099511627776)(hn:n<1099511627776)(NV:1<=n):Calls prog 262 #[.pointer (some ⟨O.mb,0,none⟩),.int .i64 (a:Int),.int .i64 (n:Int)] w λe w'=>e= .returned (.int .i64 (μ.FH a n:Nat))/\w'=w:=by
 rcases Nat.lt_or_ge μ.size (a+n)with hr|hr
 ·have HN:=Fh (dw h);have HK:=Fh (Bo h a n ha hn NV hr);obtain⟨c0,c1,_,_⟩:=h.mc;rw[Mm.FH,if_pos (.inr hr)];clear h hr;go_in;go_wp2_with fail;refine HN.o.mono ?_;rintro e w1⟨rfl,rfl⟩;go_wp2_with fail;refine HK.o.mono ?_;rintro e w2⟨rfl,rfl⟩;go_wp2;go_ret;exact⟨rfl,rfl⟩
 ·exact tO h a n NV hr
theorem oR(h:ao O μ w)(a t k:Nat)(ha:a<4294967296)(hv:dB a μ=some (t,k)):Calls prog 271 #[.pointer (some ⟨O.mb,0,none⟩),.int .i64 (a:Int)] w λe w'=>e= .returned (.tuple #[.int .i64 (t:Int),.int .i64 (k:Int)])/\MG O w μ w':=by
 have HK:=Fh (j6 h a 4 (by omega) (by omega) (by omega));have HH:=Fh h;unfold dB at hv;by_cases h5:μ.FH a 4=5
 ·rw[if_pos h5]at hv;obtain⟨v,h1,h2⟩:=Fi hv;have h2:=Fk h2;injection h2 with e1 e2;subst e1 e2;have HL:=Fh (dA h a 1 5 v h1);have FR:v<256:=oO h1;rw[h5]at HK;clear h hv h1 h2 h5;go_in;go_wp2_with fail;refine HK.o.mono ?_;rintro e w1⟨rfl,rfl⟩;go_wp2_with fail;refine HL.o.mono ?_;rintro e w2⟨rfl,hg⟩;go_wp2;go_ret2;exact⟨rfl,hg⟩
 ·rw[if_neg h5]at hv;have h2:=Fk hv;injection h2 with e1 e2;obtain⟨q,hq⟩:=Fp (μ.FH a 4);rw[<-hq]at HK h5 e2;subst e1 e2;have q5:((q:Int) !=5)=true:=by rw[bne_iff_ne];omega
  clear h hv hq h5;go_in;go_wp2_with fail;refine HK.o.mono ?_;rintro e w1⟨rfl,rfl⟩;go_wp2;go_ret2;exact⟨rfl,MG.refl HH.o⟩
theorem mP{a t k:Nat}(hv:dB a μ=some (t,k)):t<256/\k<256:=by
 unfold dB at hv;split at hv
 ·obtain⟨v,h1,h2⟩:=Fi hv;have h2:=Fk h2;injection h2 with e1 e2;subst e1 e2;exact⟨oO h1,by omega⟩
 ·have h2:=Fk hv;injection h2 with e1 e2;subst e1 e2;refine⟨by omega,?_⟩;unfold Mm.FH;split
  ·omega
  ·split
   ·exact Tr.Jz _ _
   ·omega
theorem eF(h:ao O μ w)(a f v:Nat)(ha:a<4294967296)(hf:f<12)(hv:im a f μ=some v):Calls prog 275 #[.pointer (some ⟨O.mb,0,none⟩),.int .i64 (a:Int),.int .i64 (f:Int)] w λe w'=>e= .returned (.int .u64 (v:Int))/\MG O w μ w':=by
 obtain⟨⟨t,k⟩,hl,hv⟩:=Fi hv;dsimp only at hv;have YQ:=Fh (oR h a t k ha hl);have Jv:=Fh (λW (hg:MG O w μ W)=>dx t f W hg.has.env hf);have HH:=Fh h;unfold S9 at hv;have hle:=oM t f;by_cases hz:(FO t f).2=0
 ·rw[if_pos hz]at hv;obtain rfl:=Fk hv;rw[jr hz]at Jv;clear h hv hl hz hle;go_in;go_wp2_with fail;refine YQ.o.mono ?_;rintro e w1⟨rfl,Gz⟩;have FA:=Fh Gz;clear Gz;go_wp2_with fail;refine(Jv.o _ FA.o).mono ?_;rintro e w2⟨rfl,FF⟩;have FK:=Fh (FA.o.below FF);clear FF;obtain⟨w3,F7⟩:=Fp (w2.alloc (.cells #[.int .i64 0,.int .i64 0] 308));have FZ:MG O w μ w3:=by rw[F7];exact FK.o.alloc _
  have Jq:Whole w3 w2.heap.size 308 #[.int .i64 0,.int .i64 0]:=by rw[F7];exact Whole.new w2 _ _
  have n0:=FZ.has.env.hn 0 (by omega);have n1:=FZ.has.env.hn 1 (by omega);have x0:w3.cell? ⟨w2.heap.size,0,none⟩=some (.int .i64 0):=Jq.cell 0;have x1:w3.cell? ⟨w2.heap.size,1,none⟩=some (.int .i64 0):=Jq.cell 1;have FT:=Fh FZ;clear FZ Jq;go_upto_region 3 with fail;rw[<-F7];clear F7;go_wp2;go_ret;exact⟨rfl,FT.o⟩
 ·rw[if_neg hz]at hv;have hk:=(mP hl).2;obtain⟨p1,LS⟩:=Fp ((FO t f).1);obtain⟨p2,Jn⟩:=Fp ((FO t f).2);rw[<-LS,<-Jn]at Jv hv hle;rw[<-Jn]at hz;have ME:=λW (hg:MG O w μ W)=>dA hg.has (a+p1) p2 k v hv;simp only [show((a+p1:Nat):Int)=(a:Int)+(p1:Int)by omega]at ME;have O4:=Fh ME;have G7:((p2:Int)==0)=false:=by rw[Fo];omega
  clear h hv hl hz LS Jn ME;go_in;go_wp2_with fail;refine YQ.o.mono ?_;rintro e w1⟨rfl,Gz⟩;have FA:=Fh Gz;clear Gz;go_wp2_with fail;refine(Jv.o _ FA.o).mono ?_;rintro e w2⟨rfl,FF⟩;have FK:=Fh (FA.o.below FF);clear FF;obtain⟨w3,F7⟩:=Fp (w2.alloc (.cells #[.int .i64 (p1:Int),.int .i64 (p2:Int)] 308));have FZ:MG O w μ w3:=by rw[F7];exact FK.o.alloc _
  have Jq:Whole w3 w2.heap.size 308 #[.int .i64 (p1:Int),.int .i64 (p2:Int)]:=by rw[F7];exact Whole.new w2 _ _
  have n0:=FZ.has.env.hn 0 (by omega);have n1:=FZ.has.env.hn 1 (by omega);have x0:w3.cell? ⟨w2.heap.size,0,none⟩=some (.int .i64 (p1:Int)):=Jq.cell 0;have x1:w3.cell? ⟨w2.heap.size,1,none⟩=some (.int .i64 (p2:Int)):=Jq.cell 1;have FT:=Fh FZ;clear FZ Jq;go_upto_region 3 with fail;rw[<-F7];clear F7;go_wp2_with fail;refine(O4.o _ FT.o).mono ?_;rintro e w4⟨rfl,F9⟩;have FW:=Fh (FT.o.trans F9);clear F9;go_wp2;go_ret;exact⟨rfl,FW.o⟩
theorem gr(h:ao O μ w):Calls prog 26 #[.pointer (some ⟨O.mb,0,none⟩)] w λe w'=>e= .returned (.int .i64 0)/\Below w.heap.size w w':=by
 have HWF:Hid (∀W,Below w.heap.size w W->Calls prog 118 #[.pointer (some ⟨O.wb,0,none⟩)] W λe w'=>e= .returned (.int .i64 0)/\w'=W):=Fh λW hb=>by
  have h1:=h.below hb;have HN:=Fh (jU h1);obtain⟨n,hn⟩:=h1.wt;have c2:=hn.cell 2;simp only [List.getElem?_toArray,List.getElem?_cons_zero,List.getElem?_cons_succ]at c2;clear hn h1;go_in;go_wp2_with fail;refine HN.o.mono ?_;rintro e w1⟨rfl,rfl⟩;go_wp2;go_ret;exact⟨rfl,rfl⟩
 have VE:Hid (∀W,Below w.heap.size w W->Calls prog 62 #[.agg #[.pointer (some ⟨O.wb,0,none⟩)]] W λe w'=>e= .returned (.int .i64 0)/\Below W.heap.size W w'):=Fh λW hb=>by
  have HB:=Fh hb;clear hb;go_in;go_wp2_with fail;refine(HWF.o _ (HB.o.alloc HB.o.size _)).mono ?_;rintro e w1⟨rfl,rfl⟩;go_wp2;go_ret;exact⟨rfl,(Below.refl _ _).alloc (Fm _) _⟩
 have HN:=Fh (dw h);obtain⟨c0,_,_,_⟩:=h.mc;clear h;go_in;go_wp2_with fail;refine HN.o.mono ?_;rintro e w1⟨rfl,rfl⟩;go_wp2_with fail;refine(VE.o _ (Below.refl _ _)).mono ?_;rintro e w2⟨rfl,hb⟩;go_wp2;go_ret;exact⟨rfl,hb⟩
theorem wK(h:ao O μ w)(a o b k v:Nat)(hv:μ.ld (a+o) b k=some v):Calls prog 273 #[.pointer (some ⟨O.mb,0,none⟩),.int .i64 (a:Int),.agg #[.int .i64 (o:Int),.int .i64 (b:Int)],.int .i64 (k:Int)] w λe w'=>e= .returned (.tuple #[.int .u64 (v:Int),.bool true])/\MG O w μ w':=by
 obtain⟨w1,FJ⟩:=Fp (w.alloc (.cells #[.int .i64 (o:Int),.int .i64 (b:Int)] 308));have Gp:Whole w1 w.heap.size 308 #[.int .i64 (o:Int),.int .i64 (b:Int)]:=by rw[FJ];exact Whole.new w _ _
 have Gz:MG O w μ w1:=by rw[FJ];exact(MG.refl h).alloc _
 have ME:=λW (hg:MG O w μ W)=>dA hg.has (a+o) b k v hv;have GU:=sN hv;have F8:=h.sz;simp only [show((a+o:Nat):Int)=(a:Int)+(o:Int)by omega]at ME;have O4:=Fh ME;have HF:=Fh (λW (hg:MG O w μ W)=>gr hg.has);have hin2:a+o<4294967296:=by
  have:=od.1 GU.1;have h4:=dT this.2.2.2 this.2.2.1;omega
 have FA:=Fh Gz;have J5:=Fh Gp;clear h hv ME Gp Gz GU F8;go_in;go_upto_region 1 with fail;rw[<-FJ];clear FJ;go_wp2_with fail;refine(HF.o _ FA.o).mono ?_;rintro e w2⟨rfl,hb⟩;have FK:=Fh (FA.o.below hb);have Gc:=(hb.block _ J5.o.lt).trans J5.o;have x0:w2.cell? ⟨w.heap.size,0,none⟩=some (.int .i64 (o:Int)):=Whole.cell Gc 0;have x1:w2.cell? ⟨w.heap.size,1,none⟩=some (.int .i64 (b:Int)):=Whole.cell Gc 1;clear hb Gc;go_wp2_with fail;refine(O4.o _ FK.o).mono ?_;rintro e w3⟨rfl,hg⟩;have FT:=Fh (FK.o.trans hg);clear hg;go_wp2_with fail;refine(HF.o _ FT.o).mono ?_;rintro e w4⟨rfl,hb⟩;have FW:=Fh (FT.o.below hb);clear hb;go_wp2;go_ret2;exact⟨rfl,FW.o⟩
end
section
variable{O:av}{μ:Mm}{w:World}
theorem j7(h:ao O μ w):Calls prog 74 #[.pointer (some ⟨O.mb,0,none⟩)] w λe w'=>e= .returned (.agg #[.pointer (some ⟨O.mb,0,none⟩),.int .i64 (μ.slots:Int)])/\Below w.heap.size w w':=by
 obtain⟨w0,Fx⟩:=Fp (w.alloc (.cells #[.pointer none,.int .i64 0] 136));have FM:Below w.heap.size w w0:=by rw[Fx];exact(Below.refl _ w).alloc (Fm _) _
 have Gd:Whole w0 w.heap.size 136 #[.pointer none,.int .i64 0]:=by rw[Fx];exact Whole.new w _ _
 have HC:=Fh (aD (h.below FM));have GW:=Fh FM;have Jd:=Fh Gd;clear h FM Gd;go_in;go_upto_region 1 with fail;rw[<-Fx];clear Fx;go_wp2_with fail;refine HC.o.mono ?_;rintro e w1⟨rfl,FN⟩;have Gp:=(FN.block _ Jd.o.lt).trans Jd.o;have Sn:Whole w1 w.heap.size 136 #[.pointer none,.int .i64 0]:=Gp;have x0:=Sn.cell 0;have x1:=Sn.cell 1;simp only [List.getElem?_toArray,List.getElem?_cons_zero,List.getElem?_cons_succ]at x0 x1;have f0:=Sn.frozen 0;have f1:=Sn.frozen 1;have GH:=Fh (ah GW.o FN);have J5:=Fh Sn;clear Gp Sn FN;go_wp2_with fail;refine bodyPost_ret (results_cell_row rfl _ _ w.heap.size 136 _ (0,0) _ rfl (bY J5.o _ _) underlying136 rfl (by kernel_rfl)) rfl ?_;exact⟨rfl,aa.F1 (S:=λk=>k=w.heap.size) ((((aa.below GH.o (λk=>k=w.heap.size))).setCell (p:=⟨w.heap.size,0,none⟩) (.inl rfl) _).setCell (p:=⟨w.heap.size,1,none⟩) (.inl rfl) _) (Fm _) (λi hi e=>by omega)⟩
theorem EZ{S:Nat->Prop}{w W W2:World}{p q:Addr}{u v:Value}(h:aa S w W/\W.cell? p=some u/\W.cell? q=some v)(k:Below W.heap.size W W2):aa S w W2/\W2.cell? p=some u/\W2.cell? q=some v:=
 ⟨h.1.trans (aa.below k _),(k.cell (ap h.2.1)).trans h.2.1,(k.cell (ap h.2.2)).trans h.2.2⟩
theorem E5{S:Nat->Prop}{b:Nat}{w W W2:World}{i j:Nat}{u v:Value}(hb:¬S b)(h:aa S w W/\W.cell? ⟨b,i,none⟩=some u/\W.cell? ⟨b,j,none⟩=some v)(k:aa S W W2):aa S w W2/\W2.cell? ⟨b,i,none⟩=some u/\W2.cell? ⟨b,j,none⟩=some v:=
 ⟨h.1.trans k,k.cell h.2.1 hb,k.cell h.2.2 hb⟩
theorem zw(h:ao O μ w)(μ':Mm)(hv:ja μ=some μ'):Calls prog 32 #[.pointer (some ⟨O.mb,0,none⟩)] w λe w'=>e= .returned (.int .i64 0)/\MG O w μ' w':=by
 unfold ja at hv;have hc:=h.cf;have Ku:=Fh (j7 h);have HH:=Fh h;have HC:=Fh (λW (hb:Below w.heap.size w W)=>aD (h.below hb));have hs:=λW (hb:Below w.heap.size w W)=>kU μ.Fq μ.slots 0 W (h.env.below hb).Hk h.ok (by omega);simp only [show((az μ.Fq+0*4:Nat):Int)=(az μ.Fq:Int)by omega,show((0:Nat):Int)=0 from rfl]at hs;have hz:=λW (hb:Below w.heap.size w W)=>lL (h.below hb) (az μ.Fq) (μ.slots*4) 4 μ' (by omega) hv;simp only [show((μ.slots*4:Nat):Int)=(μ.slots:Int)*4 by omega,show((4:Nat):Int)=4 from rfl]at hz;obtain⟨z,G9⟩:=Fp (az μ.Fq);rw[<-G9]at hs hz;obtain⟨n,hn⟩:=Fp μ.slots;rw[<-hn]at hs hz Ku HC hc;have HS:=Fh hs;have HZ:=Fh hz;have J0:¬((n:Int)=0):=by omega
 have NV:n<=8192:=hc.2.2.1;have e1:((n:Int)==0)=false:=by rw[Fo];exact J0
 have e2:¬(n=0):=by omega
 clear h hv hc hs hz G9 hn;go_in;go_wp2_with fail;refine Ku.o.mono ?_;rintro e w1⟨rfl,FN⟩;have GH:=Fh FN;obtain⟨w2,FL⟩:=Fp (w1.alloc (.cells #[.pointer (some ⟨O.mb,0,none⟩),.int .i64 (n:Int)] 136));have FF:Below w1.heap.size w1 w2:=by rw[FL];exact(Below.refl _ _).alloc (Fm _) _
 have Kt:Whole w2 w1.heap.size 136 #[.pointer (some ⟨O.mb,0,none⟩),.int .i64 (n:Int)]:=by rw[FL];exact Whole.new _ _ _
 have Gx:=Fh (ah GH.o FF);have T9:Below w.heap.size w w2.drew:=ah Gx.o (Below.refl _ w2).drew;have Mj:=Fh (HC.o w2.drew T9);have Lb:Hid (∀W,Below w2.drew.heap.size w2.drew W->_):=Fh (λW (hb:Below w2.drew.heap.size w2.drew W)=>HS.o W (ah T9 hb));have HZ2:Hid (∀W3 W4,Below w2.drew.heap.size w2.drew W3->Below W3.heap.size W3 W4->_):=Fh (λW3 W4 (h3:Below w2.drew.heap.size w2.drew W3) (h4:Below W3.heap.size W3 W4)=>HZ.o W4 (ah T9 (ah h3 h4)));have y0:=Kt.cell 0;have y1:=Kt.cell 1;simp only [List.getElem?_toArray,List.getElem?_cons_zero,List.getElem?_cons_succ]at y0 y1;have YR:Hid (∀k,au O k->k<w1.heap.size):=Fh (λk hk=>by
  have h1:=HH.o.below GH.o;rcases hk with rfl|rfl|rfl
  ·exact h1.lt (.inr (.inl rfl))
  ·exact h1.lt (.inr (.inr (.inr (.inl rfl))))
  ·exact h1.lt (.inr (.inr (.inr (.inr (.inl rfl))))))
 have HHD:=Fh T9;have FJ:IntKind.i64.wrap ((n:Int)*4)=(n:Int)*4:=IntWalk.i64_in _ (by omega);have VB:=Fh FL;clear FN FF Kt T9 HC Ku HS HZ;go_upto_region 4 with fail;rw[<-VB.o];clear FL;have Gu:aa (au O) w2 w2.drew/\w2.drew.cell? ⟨w1.heap.size,0,none⟩=some (.pointer (some ⟨O.mb,0,none⟩))/\w2.drew.cell? ⟨w1.heap.size,1,none⟩=some (.int .i64 (n:Int)):=⟨(aa.refl _ _).drew,y0,y1⟩;have IJ:¬au O w1.heap.size:=λh=>absurd (YR.o _ h) (Nat.lt_irrefl _)
 go_region_held3 (λw'=>aa (au O) w2 w'/\w'.cell? ⟨w1.heap.size,0,none⟩=some (.pointer (some ⟨O.mb,0,none⟩))/\w'.cell? ⟨w1.heap.size,1,none⟩=some (.int .i64 (n:Int)))
  (first|exact Gu|assumption|exact EZ (by assumption) (by assumption)|exact E5 IJ (by assumption) (MG.kept (by assumption)))
  (first
   |((go_at_call 77;with_reducible refine Mj.o.mono ?_);rintro e w3 ⟨rfl,Gf⟩)
   |((go_at_call 76;with_reducible refine(Lb.o _ (by assumption)).mono ?_);rintro e w4 ⟨rfl,Gk⟩)
   |((go_at_call 75;with_reducible refine(HZ2.o _ _ (by assumption) (by assumption)).mono ?_);rintro e w5 ⟨rfl,IB⟩))
 go_wp2;go_ret;exact⟨rfl,MG.after HHD.o (MG.after (ah Gf Gk) IB)⟩
end
structure dt(cb bk:Nat)(O:av)(μ:Mm)(d:Nat)(w:World):Prop where
 c:Whole w cb 94 #[.pointer (some ⟨O.mb,0,none⟩),.pointer (some ⟨bk,0,none⟩)]
 b:∃Ga:Int,Whole w bk 207 #[.int .i64 (d:Int),.int .i64 Ga]
 m:ao O μ w
section
variable{O:av}{μ:Mm}{w:World}{cb bk d:Nat}
theorem dt.below{w':World}(h:dt cb bk O μ d w)(hb:Below w.heap.size w w'):dt cb bk O μ d w':=by
 obtain⟨Ga,hm⟩:=h.b;exact⟨(hb.block _ h.c.lt).trans h.c,⟨Ga,(hb.block _ hm.lt).trans hm⟩,h.m.below hb⟩
theorem Bp(w:World):Calls prog 79 #[] w λe w'=>e= .returned (.pointer (some ⟨w.heap.size,0,none⟩))/\w'=w.alloc (.cells #[.int .i64 0,.int .i64 0] 207):=by
 go_in;go_wp2;go_ret;exact⟨rfl,rfl⟩
theorem Ex(h:ao O μ w):Calls prog 35 #[.pointer (some ⟨O.mb,0,none⟩)] w λe w'=>∃cb bk,e= .returned (.pointer (some ⟨cb,0,none⟩))/\dt cb bk O μ 0 w'/\w.heap.size<=cb/\w.heap.size<=bk/\Below w.heap.size w w':=by
 have HC:=Fh (aD h);have GN:=h.cf.1;have z:¬((μ.Fq:Int)=0):=by omega
 have z2:¬(μ.Fq=0):=by omega
 have HH:=Fh h;clear h GN;go_in;go_wp2_with fail;refine HC.o.mono ?_;rintro e w1⟨rfl,FN⟩;have GH:=Fh FN;clear FN;go_wp2_with fail;refine(Bp _).mono ?_;rintro e w2⟨rfl,FL⟩;have FF:Below w1.heap.size w1 w2:=by rw[FL];exact(Below.refl _ _).alloc (Fm _) _
 have Jg:Whole w2 w1.heap.size 207 #[.int .i64 0,.int .i64 0]:=by rw[FL];exact Whole.new _ _ _
 have Gx:=Fh FF;have Wa:=Fh Jg;clear FL FF Jg;go_wp2;go_ret;have Gf:=(Below.refl w2.heap.size w2).alloc (Fm _) (.cells #[.pointer (some ⟨O.mb,0,none⟩),.pointer (some ⟨w1.heap.size,0,none⟩)] 94);have hall:=ah GH.o (ah Gx.o Gf);exact⟨_,w1.heap.size,rfl,⟨Whole.new _ _ _,⟨0,(Gf.block _ Wa.o.lt).trans Wa.o⟩,HH.o.below hall⟩,(ah GH.o Gx.o).size,GH.o.size,hall⟩
theorem xV(s n:Nat)(w:World)(he:eB w)(ok:LP s n=true)(μ':Mm)(hv:bP (fB s n)=some μ'):Calls prog 8 #[.agg #[.int .i64 (s:Int),.int .i64 (n:Int)]] w λe w'=>∃cb bk O,e= .returned (.tuple #[.pointer (some ⟨cb,0,none⟩),.int .i64 0])/\dt cb bk O μ' 0 w'/\xT w.heap.size O/\w.heap.size<=cb/\w.heap.size<=bk/\Below w.heap.size w w':=by
 unfold bP at hv;obtain⟨μ1,h1,hv⟩:=Fi hv;obtain⟨μ2,h2,hv⟩:=Fi hv;obtain⟨μ3,h3,hv⟩:=Fi hv;obtain⟨μ4,h4,h5⟩:=Fi hv;obtain⟨w0,Fx,FM,x0,x1⟩:=dp s n w;have HN:=Fh (zn s n w0 (he.below FM) ok);have GW:=Fh FM;have H1:=Fh h1;have H2:=Fh h2;have H3:=Fh h3;have H4:=Fh h4;have H5:=Fh h5;clear FM he ok hv h1 h2 h3 h4 h5;go_in;go_upto_region 1 with fail;rw[<-Fx];clear Fx;go_wp2_with fail;refine HN.o.mono ?_;rintro e w1⟨O,rfl,hm,GF,FN⟩;obtain⟨w2,FL⟩:=Fp (w1.alloc (.cells #[.func (.func 30) #[] #[],.func (.func 31) #[] #[],.func (.func 32) #[] #[],.func (.func 33) #[] #[],.func (.func 34) #[] #[]] 77));have FF:Below w1.heap.size w1 w2:=by rw[FL];exact(Below.refl _ _).alloc (Fm _) _
 obtain⟨fb,QN⟩:=Fp w1.heap.size;have Kt:Whole w2 fb 77 #[.func (.func 30) #[] #[],.func (.func 31) #[] #[],.func (.func 32) #[] #[],.func (.func 33) #[] #[],.func (.func 34) #[] #[]]:=by rw[FL,QN];exact Whole.new _ _ _
 have FE:Hid (MG O w2 (fB s n) w2):=Fh (MG.refl (hm.below FF));have YR:Hid (¬au O fb):=Fh (λhk=>by
  have:fb<w1.heap.size:=by
   rcases hk with e|e|e
   ·rw[e];exact hm.lt (.inr (.inl rfl))
   ·rw[e];exact hm.lt (.inr (.inr (.inr (.inl rfl))))
   ·rw[e];exact hm.lt (.inr (.inr (.inr (.inr (.inl rfl)))))
  omega)
 have Gx:=Fh (ah GW.o (ah FN FF));have Sk:=Fh Kt;have RH:=Fh GF;have QO:=Fh GW.o.size;have VB:=Fh FL;have HFB:=Fh QN;have Hz:∃GC:Nat->Mm,GC 0=fB s n/\GC 1=μ1/\GC 2=μ2/\GC 3=μ3/\GC 4=μ4/\GC 5=μ':=⟨λi=> [fB s n,μ1,μ2,μ3,μ4,μ'].getD i μ',rfl,rfl,rfl,rfl,rfl,rfl⟩;obtain⟨T,t0,t1,t2,t3,t4,t5⟩:=Hz;rw[<-t0]at FE H1;rw[<-t1]at H1 H2;rw[<-t2]at H2 H3;rw[<-t3]at H3 H4;rw[<-t4]at H4 H5;rw[<-t5]at H5;have NA:=Fh t5;clear hm GF FN FF Kt FL QN t0 t1 t2 t3 t4 t5 HN x0 x1;go_wp2_with fail;rw[<-VB.o,<-HFB.o]
 go_loopw [2,3,6,7,14] (λs2 s3 _ _ Ua wr=>∃i:Nat,i<=5/\s2= .pointer none/\s3= .int .i64 0/\Ua= .int .i64 i/\Hid (MG O w2 (T i) wr)) (λ_ _ _ _ Ua _=>match Ua with| .int _ m=>5-m.toNat|_=>0)
 case atStart=>exact⟨0,by omega,rfl,rfl,rfl,FE⟩
 case round=>
  obtain⟨i,hi,rfl,rfl,rfl,HG⟩:=hrel;have hw:=HG.o.kept.whole Sk.o YR.o;have hcs:i=0\/i=1\/i=2\/i=3\/i=4\/i=5:=by omega
  rcases hcs with rfl|rfl|rfl|rfl|rfl|rfl
  ·have d0:=hw.cell 0;simp only [List.getElem?_toArray,List.getElem?_cons_zero,List.getElem?_cons_succ]at d0;have HP:=Fh (zq HG.o.has _ H1.o);clear hw;go_wp2_with fail;refine HP.o.mono ?_;rintro e w4⟨rfl,F9⟩;have FW:=Fh (HG.o.trans F9);clear F9;go_wp2;go_roundw
   case rel=>exact⟨1,by omega,rfl,rfl,rfl,FW⟩
   case measure=>simp
  ·have d0:=hw.cell 1;simp only [List.getElem?_toArray,List.getElem?_cons_zero,List.getElem?_cons_succ]at d0;have HP:=Fh (zu HG.o.has _ H2.o);clear hw;go_wp2_with fail;refine HP.o.mono ?_;rintro e w4⟨rfl,F9⟩;have FW:=Fh (HG.o.trans F9);clear F9;go_wp2;go_roundw
   case rel=>exact⟨2,by omega,rfl,rfl,rfl,FW⟩
   case measure=>simp
  ·have d0:=hw.cell 2;simp only [List.getElem?_toArray,List.getElem?_cons_zero,List.getElem?_cons_succ]at d0;have HP:=Fh (zw HG.o.has _ H3.o);clear hw;go_wp2_with fail;refine HP.o.mono ?_;rintro e w4⟨rfl,F9⟩;have FW:=Fh (HG.o.trans F9);clear F9;go_wp2;go_roundw
   case rel=>exact⟨3,by omega,rfl,rfl,rfl,FW⟩
   case measure=>simp
  ·have d0:=hw.cell 3;simp only [List.getElem?_toArray,List.getElem?_cons_zero,List.getElem?_cons_succ]at d0;have HP:=Fh (zr HG.o.has _ H4.o);clear hw;go_wp2_with fail;refine HP.o.mono ?_;rintro e w4⟨rfl,F9⟩;have FW:=Fh (HG.o.trans F9);clear F9;go_wp2;go_roundw
   case rel=>exact⟨4,by omega,rfl,rfl,rfl,FW⟩
   case measure=>simp
  ·have d0:=hw.cell 4;simp only [List.getElem?_toArray,List.getElem?_cons_zero,List.getElem?_cons_succ]at d0;have HP:=Fh (zt HG.o.has _ H5.o);clear hw;go_wp2_with fail;refine HP.o.mono ?_;rintro e w4⟨rfl,F9⟩;have FW:=Fh (HG.o.trans F9);clear F9;go_wp2;go_roundw
   case rel=>exact⟨5,by omega,rfl,rfl,rfl,FW⟩
   case measure=>simp
  ·have Ku:=Fh (Ex HG.o.has);have Wc:Hid (Below w.heap.size w wr):=Fh (Gx.o.trans (HG.o.kept.F1 Gx.o.size λk hk h=>by
    have:=RH.o;have:=QO.o;rcases h with e|e|e
    ·have:=RH.o.wb;omega
    ·have:=RH.o.gb;omega
    ·have:=RH.o.kb;omega))
   clear hw;go_wp2_with fail;refine Ku.o.mono ?_;rintro e w5⟨cb,bk,rfl,hc,Na,Jg,Io⟩;have HC:=Fh hc;have YS:Hid (w.heap.size<=cb/\w.heap.size<=bk):=Fh (by have:=Wc.o.size;omega);have Mi:=Fh (ah Wc.o Io);clear hc Na Jg Io;go_wp2;go_ret2;refine⟨cb,bk,O,rfl,by rw[<-NA.o];exact HC.o,?_,YS.o.1,YS.o.2,Mi.o⟩;have h:=RH.o;have:=QO.o;exact⟨Nat.le_trans this h.mb,Nat.le_trans this h.wb,Nat.le_trans this h.ab,Nat.le_trans this h.gb,Nat.le_trans this h.kb⟩
end
section
variable{O:av}{μ:Mm}{w:World}{cb bk d:Nat}
theorem dt.cc(h:dt cb bk O μ d w):w.cell? ⟨cb,0,none⟩=some (.pointer (some ⟨O.mb,0,none⟩))/\w.cell? ⟨cb,1,none⟩=some (.pointer (some ⟨bk,0,none⟩)):=⟨h.c.cell 0,h.c.cell 1⟩
theorem mQ(h:dt cb bk O μ d w):Calls prog 60 #[.pointer (some ⟨cb,0,none⟩)] w λe w'=>e= .returned (.bool false)/\w'=w:=by
 obtain⟨c0,_⟩:=h.cc;clear h;go_in;go_wp2;go_ret;exact⟨rfl,rfl⟩
theorem oS(h:dt cb bk O μ d w):Calls prog 25 #[.pointer (some ⟨cb,0,none⟩)] w λe w'=>e= .returned (.pointer (some ⟨O.mb,0,none⟩))/\w'=w:=by
 obtain⟨c0,_⟩:=h.cc;have HN:=Fh (mQ h);clear h;go_in;go_wp2_with fail;refine HN.o.mono ?_;rintro e w1⟨rfl,rfl⟩;go_wp2;go_ret;exact⟨rfl,rfl⟩
theorem zx(Ga:Int)(hb:Whole w bk 207 #[.int .i64 (d:Int),.int .i64 Ga]):Calls prog 143 #[.pointer (some ⟨bk,0,none⟩)] w λe w'=>e= .returned (.int .i64 (d:Int))/\w'=w:=by
 have c0:=hb.cell 0;simp only [List.getElem?_toArray,List.getElem?_cons_zero]at c0;clear hb;go_in;go_wp2;go_ret;exact⟨rfl,rfl⟩
theorem uk(h:dt cb bk O μ d w):Calls prog 82 #[.pointer (some ⟨bk,0,none⟩)] w λe w'=>e= .returned (.bool (decide (0<d)))/\w'=w:=by
 obtain⟨Ga,hb⟩:=h.b;have HD:=Fh (zx Ga hb);clear h hb;go_in;rcases Nat.eq_zero_or_pos d with h0|hp
 ·subst h0;go_wp2_with fail;refine HD.o.mono ?_;rintro e w1⟨rfl,rfl⟩;go_wp2;go_ret;exact⟨rfl,rfl⟩
 ·have e1:decide ((0:Int)<(d:Int))=true:=by simp;omega
  have e2:decide (0<d)=true:=by simp;omega
  go_wp2_with fail;refine HD.o.mono ?_;rintro e w1⟨rfl,rfl⟩;go_wp2;go_ret;exact⟨aq (by simp;exact hp),rfl⟩
end
theorem aB{P:Program}{fn:Func}{p u:Tmp}{ty:TypeId}(h:fn.results= #[.cell p ty,.tmp u])(tmps:Array Value)(w:World)(g:Nat)(t:TypeId)(cs:Array Value)(fr:Nat×Nat)(d:TypeDesc)
  (hp:tmps.getD p undef= .pointer (some ⟨g,0,none⟩)) (hg:w.heap[g]? =some (.cells cs t fr))
  (hu:P.underlying ty=some d) (hd:(match d with| .struct _| .array _ _=>true|_=>false)=true) (hi:(P.info? ty).map (·.size)=some cs.size):
  (results fn tmps).run P w= .ok (.tuple #[.agg cs,tmps.getD u undef]) w:=by
 rw[results_cell_tmp h,hp];simp[asAddr,run_loadVar_row w g t ty cs fr d hg hu hd hi,Result.andThen]
section
variable{O:av}{μ:Mm}{w:World}
theorem fK{s off b v:Nat}(h:cx s off b μ=some v):s<μ.Fq/\μ.ld (128+s*16+off) b 3=some v:=by
 unfold cx at h;split at h
 ·exact⟨by assumption,h⟩
 ·cases h
theorem cH{s off b v:Nat}(h:cx s off b μ=some v):v<256^b:=oO (fK h).2
theorem eG(h:ao O μ w)(s off b v:Nat)(ho:off<=16)(Gk:b<=4)(hv:cx s off b μ=some v):Calls prog 207 #[.pointer (some ⟨O.mb,0,none⟩),.int .i64 (s:Int),.int .i64 (off:Int),.int .i64 (b:Int)] w λe w'=>e= .returned (.int .i64 (v:Int))/\MG O w μ w':=by
 obtain⟨hs,ME⟩:=fK hv;have JF:v<4294967296:=Nat.lt_of_lt_of_le (cH hv) (by have:=Nat.pow_le_pow_right (n:=256) (by decide) Gk;exact this);have HC:=Fh (aD h);have HH:=Fh (λW (hb:Below w.heap.size w W)=>oE μ.Fq μ.slots s W (h.env.below hb).Hk h.ok hs);have hm:=λW (hg:MG O w μ W)=>dA hg.has (128+s*16+off) b 3 v ME;have h64:=h.cf.2.1;rw[show((128+s*16+off:Nat):Int)=128+(s:Int)*16+(off:Int)by omega]at hm;simp only [show((128+s*16:Nat):Int)=128+(s:Int)*16 by omega]at HH;have HM:=Fh hm;have HG:=Fh (MG.refl h);have Si:s<64:=by omega
 clear h hv ME hm hs h64;go_in;go_wp2_with fail;refine HC.o.mono ?_;rintro e w1⟨rfl,FN⟩;have GH:=Fh FN;clear FN;go_wp2_with fail;refine(HH.o _ GH.o).mono ?_;rintro e w2⟨rfl,FF⟩;have FK:=Fh (HG.o.below (ah GH.o FF));clear FF;go_wp2_with fail;refine(HM.o _ FK.o).mono ?_;rintro e w3⟨rfl,FZ⟩;have FT:=Fh (FK.o.trans FZ);clear FZ;go_wp2;go_ret;exact⟨rfl,FT.o⟩
theorem sV(h:ao O μ w)(s:Nat)(hs:s<μ.Fq):Calls prog 206 #[.pointer (some ⟨O.mb,0,none⟩),.int .i64 (s:Int)] w λe w'=>e= .returned (.bool true)/\Below w.heap.size w w':=by
 have HC:=Fh (aD h);obtain⟨a,ha⟩:=Fp μ.Fq;rw[<-ha]at HC hs;have e1:decide ((s:Int)<(a:Int))=true:=by simp;omega
 have e2:decide (s<a)=true:=by simp;omega
 have e3:decide ((0:Int)<=(s:Int))=true:=by simp
 clear h ha;go_in;go_wp2_with fail;refine HC.o.mono ?_;rintro e w1⟨rfl,FN⟩;go_wp2;go_ret;exact⟨rfl,FN⟩
end
section
variable{O:av}{μ:Mm}{w:World}
def LF(x:Sl):Array Value:= #[.int .i64 (x.Ft:Int),.int .i64 (x.live:Int),.int .u32 (x.free:Int),.int .i64 (x.next:Int),.int .i64 (x.prev:Int)]
theorem Ey{w:World}{rb:Nat}{T:TypeId}{a0 a1 a2 a3 a4:Value}(h:Whole w rb T #[a0,a1,a2,a3,a4])(x0 x1 x2 x3 x4:Value):Whole (((((w.setCell ⟨rb,0,none⟩ x0).setCell ⟨rb,1,none⟩ x1).setCell ⟨rb,2,none⟩ x2).setCell ⟨rb,3,none⟩ x3).setCell ⟨rb,4,none⟩ x4) rb T #[x0,x1,x2,x3,x4]:=by
 have h0:=h.put 0 x0;have h1:=h0.put 1 x1;have h2:=h1.put 2 x2;have h3:=h2.put 3 x3;have h4:=h3.put 4 x4;exact h4
theorem MG.box{μ0:Mm}{w1:World}(h0:ao O μ0 w)(h:MG O w μ w1){p:Addr}(hp:w.heap.size<=p.block)(u:Value):MG O w μ (w1.setCell p u):=
 ⟨h.has.kept (S:=λk=>k=p.block) ((aa.refl (λk=>k=p.block) w1).setCell (.inl rfl) u) (λk hk e=>by
  have:=h0.lt hk;omega),h.kept.setCell (.inr hp) u⟩
theorem gx(h:ao O μ w)(s:Nat)(x:Sl)(hv:dR s μ=some x):Calls prog 111 #[.pointer (some ⟨O.mb,0,none⟩),.int .i64 (s:Int)] w λe w'=>e= .returned (.tuple #[.agg (LF x),.int .i64 0])/\MG O w μ w':=by
 unfold dR at hv;obtain⟨c,h1,hv⟩:=Fi hv;obtain⟨l,h2,hv⟩:=Fi hv;obtain⟨f,h3,hv⟩:=Fi hv;obtain⟨n,h4,hv⟩:=Fi hv;obtain⟨p,h5,hv⟩:=Fi hv;obtain rfl:=Fk hv;obtain⟨w0,Fx⟩:=Fp (w.alloc (.cells #[.int .i64 0,.int .i64 0,.int .u32 0,.int .i64 0,.int .i64 0] 176));have FM:Below w.heap.size w w0:=by rw[Fx];exact(Below.refl _ w).alloc (Fm _) _
 have Gd:Whole w0 w.heap.size 176 #[.int .i64 0,.int .i64 0,.int .u32 0,.int .i64 0,.int .i64 0]:=by rw[Fx];exact Whole.new w _ _
 have YT:=(fK h1).1;have HMD:=Fh (gX (h.below FM));have HHS:=Fh (λW (hb:Below w.heap.size w W)=>sV (h.below hb) s YT);have Tf:=Fh (λW (hg:MG O w μ W)=>eG hg.has s 0 2 c (by omega) (by omega) h1);have Mk:=Fh (λW (hg:MG O w μ W)=>eG hg.has s 2 2 l (by omega) (by omega) h2);have Pt:=Fh (λW (hg:MG O w μ W)=>eG hg.has s 4 4 f (by omega) (by omega) h3);have I4:=Fh (λW (hg:MG O w μ W)=>eG hg.has s 8 4 n (by omega) (by omega) h4);have MF:=Fh (λW (hg:MG O w μ W)=>eG hg.has s 12 4 p (by omega) (by omega) h5);have hf:f<4294967296:=cH h3;have GW:=Fh FM;have Jd:=Fh Gd;have HG:=Fh (MG.refl h);have KR:Hid (¬au O w.heap.size):=Fh (λhk=>by
  rcases hk with e|e|e
  ·exact absurd (h.lt (.inr (.inl rfl))) (by rw[<-e];exact Nat.lt_irrefl _)
  ·exact absurd (h.lt (.inr (.inr (.inr (.inl rfl))))) (by rw[<-e];exact Nat.lt_irrefl _)
  ·exact absurd (h.lt (.inr (.inr (.inr (.inr (.inl rfl)))))) (by rw[<-e];exact Nat.lt_irrefl _))
 clear h hv h1 h2 h3 h4 h5 FM Gd YT;go_in;go_upto_region 1 with fail;rw[<-Fx];clear Fx;go_wp2_with fail;refine HMD.o.mono ?_;rintro e w1⟨rfl,FN⟩;have GH:=Fh (ah GW.o FN);have J5:=Fh ((FN.block _ Jd.o.lt).trans Jd.o);clear FN;go_wp2_with fail;refine(HHS.o _ GH.o).mono ?_;rintro e w2⟨rfl,FF⟩;have Gx:=Fh (ah GH.o FF);have Gc:Whole w2 w.heap.size 176 #[.int .i64 0,.int .i64 0,.int .u32 0,.int .i64 0,.int .i64 0]:=(FF.block _ (Whole.lt J5.o)).trans J5.o;have KO:=Fh Gc;have FK:Hid (MG O w μ w2):=Fh (HG.o.below Gx.o);clear FF Gc;go_wp2_with fail;refine(Tf.o _ FK.o).mono ?_;rintro e w3⟨rfl,FZ⟩;have Nc:=Fh (FZ.kept.whole KO.o KR.o);have FT:=Fh (FK.o.trans FZ);clear FZ;go_wp2_with fail;refine(Mk.o _ FT.o).mono ?_;rintro e w4⟨rfl,F9⟩;have Lc:=Fh (F9.kept.whole Nc.o KR.o);have FW:=Fh (FT.o.trans F9);clear F9;go_wp2_with fail;refine(Pt.o _ FW.o).mono ?_;rintro e w5⟨rfl,IB⟩;have QP:=Fh (IB.kept.whole Lc.o KR.o);have Gj:=Fh (FW.o.trans IB);clear IB;go_wp2_with fail;refine(I4.o _ Gj.o).mono ?_;rintro e w6⟨rfl,Hm⟩;have YU:=Fh (Hm.kept.whole QP.o KR.o);have GP:=Fh (Gj.o.trans Hm);clear Hm;go_wp2_with fail;refine(MF.o _ GP.o).mono ?_;rintro e w7⟨rfl,J1⟩;have Tg:=J1.kept.whole YU.o KR.o;have Iv:=Fh (GP.o.trans J1);have r0:=Tg.cell 0;have r1:=Tg.cell 1;have r2:=Tg.cell 2;have r3:=Tg.cell 3;have r4:=Tg.cell 4;simp only [List.getElem?_toArray,List.getElem?_cons_zero,List.getElem?_cons_succ]at r0 r1 r2 r3 r4;have s0:=Tg.frozen 0;have s1:=Tg.frozen 1;have s2:=Tg.frozen 2;have s3:=Tg.frozen 3;have s4:=Tg.frozen 4;have Wd:=Fh Tg;clear Tg J1;go_wp2_with fail;refine bodyPost_ret (aB rfl _ _ w.heap.size 176 _ (0,0) _ rfl (Ey Wd.o _ _ _ _ _) underlying176 rfl (by kernel_rfl)) rfl ?_;exact⟨rfl,((((Iv.o.box HG.o.has (Fm _) _).box HG.o.has (Fm _) _).box HG.o.has (Fm _) _).box HG.o.has (Fm _) _).box HG.o.has (Fm _) _⟩
end
theorem aX{P:Program}{ops:Array Oper}{o:Oper}{a:Act}{w:World}{K:Act->World->Prop}{Q:Exit->Act->World->Prop}{E:Prop}(hg:o.guard=none)(f:FuncId)(args:Array Value)(Nz:(execOp a.eval o).run P w= .ok (.enter f args) w)
  (R:Value->World->Prop) (hc:Calls P f args w λe w'=>∃v,e= .returned v/\R v w') (h:∀v w',R v w'->K (a.put o.dst v) w'):
  if Region.wanted o (yielded ops a.tmps)=true then Oper.wp P o a w K Q else E:=by
 have hw:Region.wanted o (yielded ops a.tmps)=true:=by simp[Region.wanted,hg]
 rw[if_pos hw];unfold Oper.wp;rw[Nz,Oper.upon_enter];refine hc.mono λe w' hh=> ?_;obtain⟨v,rfl,hR⟩:=hh;exact h v w' hR
theorem oT{c:Nat}(h:1<=c/\c<=9):32<=dM c/\dM c<=512/\dM c%16=0:=by
 obtain⟨h1,h2⟩:=h;have:c=1\/c=2\/c=3\/c=4\/c=5\/c=6\/c=7\/c=8\/c=9:=by omega
 rcases this with rfl|rfl|rfl|rfl|rfl|rfl|rfl|rfl|rfl<;>decide
theorem bF(c:Nat):ai c<=32/\ai c*ae c<=1024:=by
 unfold ai ae;split
 ·rename_i h
  obtain⟨h1,h2⟩:=h;have:c=1\/c=2\/c=3\/c=4\/c=5\/c=6\/c=7\/c=8\/c=9:=by omega
  rcases this with rfl|rfl|rfl|rfl|rfl|rfl|rfl|rfl|rfl<;>decide
 ·simp
theorem sW(c:Nat)(w:World)(hs:Sz w):Calls prog 284 #[.int .i64 (c:Int)] w λe w'=>e= .returned (.int .i64 (ae c:Nat))/\w'=w:=by
 have HS:=Fh hs;clear hs;go_in;go_wp2_with fail;refine(sH _ _).mono ?_;rintro e w1⟨rfl,rfl⟩;by_cases h:1<=c/\c<=9
 ·have hc:=HS.o c (by omega);have hd:decide ((1:Int)<=(c:Int)/\(c:Int)<=9)=true:=by simp;omega
  have HZ:Hid (ae c=dM c):=Fh (by rw[ae,if_pos h]);obtain⟨h1,h2⟩:=h;rw[hd];go_wp2;go_ret;exact⟨aH (by rw[HZ.o]),rfl⟩
 ·have hd:decide ((1:Int)<=(c:Int)/\(c:Int)<=9)=false:=by simp;omega
  rw[hd];go_wp2;go_ret;exact⟨aH (by rw[ae,if_neg h];rfl),rfl⟩
theorem Ez(c:Nat)(w:World)(hs:Sz w):Calls prog 338 #[.int .i64 (c:Int)] w λe w'=>e= .returned (.int .i64 (fA c:Nat))/\w'=w:=by
 have HS:=Fh hs;clear hs;go_in;go_wp2_with fail;refine(sH _ _).mono ?_;rintro e w1⟨rfl,rfl⟩;by_cases h:1<=c/\c<=9
 ·have hc:=HS.o c (by omega);have hd:decide ((1:Int)<=(c:Int)/\(c:Int)<=9)=true:=by simp;omega
  have HZ:Hid (fA c=1024%dM c):=Fh (by rw[fA,if_pos h]);have hz:=oT h;obtain⟨h1,h2⟩:=h;obtain⟨z,Vu⟩:=Fp (dM c);rw[<-Vu]at hc HZ hz;have hne:¬((z:Int)=0):=by omega
  clear Vu;rw[hd];go_wp2;go_ret;exact⟨aH (by rw[HZ.o];first|rfl|simp|omega),rfl⟩
 ·have hd:decide ((1:Int)<=(c:Int)/\(c:Int)<=9)=false:=by simp;omega
  rw[hd];go_wp2;go_ret;exact⟨aH (by rw[fA,if_neg h];rfl),rfl⟩
theorem Bq(c i:Nat)(w:World)(hs:Sz w)(hi:i<ai c):Calls prog 291 #[.int .i64 (c:Int),.int .i64 (i:Int)] w λe w'=>e= .returned (.tuple #[.int .i64 ((i*ae c:Nat):Int),.int .i64 0])/\w'=w:=by
 have IY:1<=c/\c<=9:=Classical.byContradiction λh=>by rw[ai,if_neg h]at hi;omega
 have hle:=bF c;have HB:=Fh (λW (h:Sz W)=>fE c W h);have HS:=Fh hs;have hc:=hs c (by omega);have hd:decide ((1:Int)<=(c:Int)/\(c:Int)<=9)=true:=by simp;omega
 have HZ:Hid (ae c=dM c):=Fh (by rw[ae,if_pos IY]);have hz:=oT IY;obtain⟨z,Vu⟩:=Fp (dM c);rw[<-Vu]at hc HZ hz;rw[HZ.o];obtain⟨b,hb⟩:=Fp (ai c);rw[<-hb]at hi HB hle;obtain⟨h1,h2⟩:=IY;have hb32:=hle.1;have hmul:i*z<=32*512:=Nat.mul_le_mul (by omega) (by omega);have hmi:((i*z:Nat):Int)=(i:Int)*(z:Int):=Int.natCast_mul _ _;have HM:=Fh hmi;have V1:Hid (0<=(i:Int)*(z:Int)/\(i:Int)*(z:Int)<=16384):=Fh (by rw[<-hmi];omega);have Ub:decide ((i:Int)<0)=false:=by simp
 have hd2:decide ((b:Int)<=(i:Int))=false:=by simp;omega
 have hd3:decide (b<=i)=false:=by simp;omega
 clear hs Vu hb hle hmi hmul;go_in;go_wp2_with fail;refine(sH _ _).mono ?_;rintro e w1⟨rfl,rfl⟩;rw[hd];go_wp2_with fail;refine(HB.o _ HS.o).mono ?_;rintro e w2⟨rfl,rfl⟩;have hmul:=V1.o;go_wp2;go_ret2;rw[HM.o];exact⟨rfl,rfl⟩
def Ha(mb s a:Nat)(x:Sl):Array Value:= #[.pointer (some ⟨mb,0,none⟩),.int .i64 (s:Int),.int .i64 (a:Int),.int .i64 (x.Ft:Int),.int .i64 (x.live:Int),.int .u32 (x.free:Int),.int .i64 (x.next:Int),.int .i64 (x.prev:Int)]
section
variable{O:av}{μ:Mm}{w:World}
theorem ao.Fu(h:ao O μ w){k:Nat}(hk:w.heap.size<=k):¬au O k:=λhw=>by
 rcases hw with e|e|e
 ·exact absurd (h.lt (.inr (.inl rfl))) (by omega)
 ·exact absurd (h.lt (.inr (.inr (.inr (.inl rfl))))) (by omega)
 ·exact absurd (h.lt (.inr (.inr (.inr (.inr (.inl rfl)))))) (by omega)
theorem ju(mb s a:Nat)(x:Sl)(w:World)(hs:Sz w):Calls prog 192 #[.agg (Ha mb s a x)] w λe w'=>e= .returned (.int .i64 (ae x.Ft:Nat))/\Below w.heap.size w w':=by
 obtain⟨w0,Fx⟩:=Fp (w.alloc (.cells (Ha mb s a x) 245));have FM:Below w.heap.size w w0:=by rw[Fx];exact(Below.refl _ w).alloc (Fm _) _
 have Gd:Whole w0 w.heap.size 245 (Ha mb s a x):=by rw[Fx];exact Whole.new w _ _
 have r3:=Gd.cell 3;simp only [Ha,List.getElem?_toArray,List.getElem?_cons_zero,List.getElem?_cons_succ]at r3;have GW:=Fh FM;have IA:=Fh (sW x.Ft w0 (hs.below FM));unfold Ha at Fx⊢;clear Gd FM hs;go_in;go_upto_region 1 with fail;rw[<-Fx];clear Fx;go_wp2_with fail;refine IA.o.mono ?_;rintro e w2⟨rfl,rfl⟩;go_wp2;go_ret;exact⟨rfl,GW.o⟩
theorem bg{w:World}{b:Nat}{T:TypeId}{c0 c1 c2 c3 c4 c5 c6 c7:Value}(h:Whole w b T #[c0,c1,c2,c3,c4,c5,c6,c7]):w.cell? ⟨b,0,none⟩=some c0/\w.cell? ⟨b,1,none⟩=some c1/\w.cell? ⟨b,2,none⟩=some c2/\w.cell? ⟨b,3,none⟩=some c3/\w.cell? ⟨b,4,none⟩=some c4/\w.cell? ⟨b,5,none⟩=some c5/\w.cell? ⟨b,6,none⟩=some c6/\w.cell? ⟨b,7,none⟩=some c7:=
 ⟨h.cell 0,h.cell 1,h.cell 2,h.cell 3,h.cell 4,h.cell 5,h.cell 6,h.cell 7⟩
theorem Eo{w W W2:World}{p0 p1 p2 p3 p4 p5 p6 p7:Addr}{u0 u1 u2 u3 u4 u5 u6 u7:Value}(h:Below w.heap.size w W/\W.cell? p0=some u0/\W.cell? p1=some u1/\W.cell? p2=some u2/\W.cell? p3=some u3/\W.cell? p4=some u4/\W.cell? p5=some u5/\W.cell? p6=some u6/\W.cell? p7=some u7)(k:Below W.heap.size W W2):Below w.heap.size w W2/\W2.cell? p0=some u0/\W2.cell? p1=some u1/\W2.cell? p2=some u2/\W2.cell? p3=some u3/\W2.cell? p4=some u4/\W2.cell? p5=some u5/\W2.cell? p6=some u6/\W2.cell? p7=some u7:=by
 obtain⟨h,c0,c1,c2,c3,c4,c5,c6,c7⟩:=h;exact⟨ah h k,aK c0 k,aK c1 k,aK c2 k,aK c3 k,aK c4 k,aK c5 k,aK c6 k,aK c7 k⟩
theorem xW{w:World}{p0 p1 p2 p3 p4 p5 p6 p7:Addr}{u0 u1 u2 u3 u4 u5 u6 u7:Value}(c0:w.cell? p0=some u0)(c1:w.cell? p1=some u1)(c2:w.cell? p2=some u2)(c3:w.cell? p3=some u3)(c4:w.cell? p4=some u4)(c5:w.cell? p5=some u5)(c6:w.cell? p6=some u6)(c7:w.cell? p7=some u7):Below w.heap.size w w.drew/\w.drew.cell? p0=some u0/\w.drew.cell? p1=some u1/\w.drew.cell? p2=some u2/\w.drew.cell? p3=some u3/\w.drew.cell? p4=some u4/\w.drew.cell? p5=some u5/\w.drew.cell? p6=some u6/\w.drew.cell? p7=some u7:=
 ⟨(Below.refl _ _).drew,c0,c1,c2,c3,c4,c5,c6,c7⟩
theorem ul(h:ao O μ w)(s a at_:Nat)(x:Sl)(hc:1<=x.Ft/\x.Ft<=9)(GG:at_+ae x.Ft<=μ.size):Calls prog 191 #[.agg (Ha O.mb s a x),.int .i64 (at_:Int)] w λe w'=>e= .returned (.bool (decide (μ.FH at_ (ae x.Ft)=5)))/\Below w.heap.size w w':=by
 have hz:=oT hc;have G9:ae x.Ft=dM x.Ft:=by rw[ae,if_pos hc]
 obtain⟨w0,Fx⟩:=Fp (w.alloc (.cells (Ha O.mb s a x) 245));have FM:Below w.heap.size w w0:=by rw[Fx];exact(Below.refl _ w).alloc (Fm _) _
 have Gd:Whole w0 w.heap.size 245 (Ha O.mb s a x):=by rw[Fx];exact Whole.new w _ _
 have Jd:=Fh Gd;have GW:=Fh FM;have IA:=Fh (λW (hb:Below w.heap.size w W)=>ju O.mb s a x W (h.below hb).env.Hk);have We:=Fh (λW (hb:Below w.heap.size w W)=>tO (h.below hb) at_ (ae x.Ft) (by omega) GG);clear Gd FM hz G9 GG;obtain⟨sz,F8⟩:=Fp (ae x.Ft);rw[<-F8]at IA We⊢;obtain⟨kv,hkv⟩:=Fp (μ.FH at_ sz);rw[<-hkv]at We⊢;clear F8 hkv;unfold Ha at Fx IA⊢;go_in;go_upto_region 1 with fail;rw[<-Fx];clear Fx;obtain⟨x0,x1,x2,x3,x4,x5,x6,x7⟩:=bg Jd.o;go_wp2_with fail;have Gu:=xW x0 x1 x2 x3 x4 x5 x6 x7
 go_region_held3 (λw'=>Below w0.heap.size w0 w'/\w'.cell? ⟨w.heap.size,0,none⟩=some (.pointer (some ⟨O.mb,0,none⟩))/\w'.cell? ⟨w.heap.size,1,none⟩=some (.int .i64 (s:Int))/\w'.cell? ⟨w.heap.size,2,none⟩=some (.int .i64 (a:Int))/\w'.cell? ⟨w.heap.size,3,none⟩=some (.int .i64 (x.Ft:Int))/\w'.cell? ⟨w.heap.size,4,none⟩=some (.int .i64 (x.live:Int))/\w'.cell? ⟨w.heap.size,5,none⟩=some (.int .u32 (x.free:Int))/\w'.cell? ⟨w.heap.size,6,none⟩=some (.int .i64 (x.next:Int))/\w'.cell? ⟨w.heap.size,7,none⟩=some (.int .i64 (x.prev:Int)))
  (first|exact Gu|assumption|exact Eo (by assumption) (by assumption))
  (first
   |((go_at_call 192;with_reducible refine(IA.o _ (ah GW.o (And.left (by assumption)))).mono ?_);rintro e w2 ⟨rfl,FF⟩)
   |((go_at_call 262;with_reducible refine(We.o _ (ah GW.o (And.left (by assumption)))).mono ?_);rintro e w2 ⟨rfl,rfl⟩))
 go_wp2;go_ret;exact⟨aq (Bool.eq_iff_iff.2 (by simp;omega)),ah GW.o (And.left (by assumption))⟩
theorem EA{w:World}{rb:Nat}{T:TypeId}{a0 a1 a2 a3 a4 a5 a6 a7:Value}(h:Whole w rb T #[a0,a1,a2,a3,a4,a5,a6,a7])(x0 x1 x2 x3 x4 x5 x6 x7:Value):Whole ((((((((w.setCell ⟨rb,0,none⟩ x0).setCell ⟨rb,1,none⟩ x1).setCell ⟨rb,2,none⟩ x2).setCell ⟨rb,3,none⟩ x3).setCell ⟨rb,4,none⟩ x4).setCell ⟨rb,5,none⟩ x5).setCell ⟨rb,6,none⟩ x6).setCell ⟨rb,7,none⟩ x7) rb T #[x0,x1,x2,x3,x4,x5,x6,x7]:=by
 have h0:Whole (w.setCell ⟨rb,0,none⟩ x0) rb T #[x0,a1,a2,a3,a4,a5,a6,a7]:=h.put 0 x0;have h1:Whole ((w.setCell ⟨rb,0,none⟩ x0).setCell ⟨rb,1,none⟩ x1) rb T #[x0,x1,a2,a3,a4,a5,a6,a7]:=h0.put 1 x1;have h2:Whole (((w.setCell ⟨rb,0,none⟩ x0).setCell ⟨rb,1,none⟩ x1).setCell ⟨rb,2,none⟩ x2) rb T #[x0,x1,x2,a3,a4,a5,a6,a7]:=h1.put 2 x2;have h3:Whole ((((w.setCell ⟨rb,0,none⟩ x0).setCell ⟨rb,1,none⟩ x1).setCell ⟨rb,2,none⟩ x2).setCell ⟨rb,3,none⟩ x3) rb T #[x0,x1,x2,x3,a4,a5,a6,a7]:=h2.put 3 x3;have h4:Whole (((((w.setCell ⟨rb,0,none⟩ x0).setCell ⟨rb,1,none⟩ x1).setCell ⟨rb,2,none⟩ x2).setCell ⟨rb,3,none⟩ x3).setCell ⟨rb,4,none⟩ x4) rb T #[x0,x1,x2,x3,x4,a5,a6,a7]:=h3.put 4 x4;have h5:Whole ((((((w.setCell ⟨rb,0,none⟩ x0).setCell ⟨rb,1,none⟩ x1).setCell ⟨rb,2,none⟩ x2).setCell ⟨rb,3,none⟩ x3).setCell ⟨rb,4,none⟩ x4).setCell ⟨rb,5,none⟩ x5) rb T #[x0,x1,x2,x3,x4,x5,a6,a7]:=h4.put 5 x5;have h6:Whole (((((((w.setCell ⟨rb,0,none⟩ x0).setCell ⟨rb,1,none⟩ x1).setCell ⟨rb,2,none⟩ x2).setCell ⟨rb,3,none⟩ x3).setCell ⟨rb,4,none⟩ x4).setCell ⟨rb,5,none⟩ x5).setCell ⟨rb,6,none⟩ x6) rb T #[x0,x1,x2,x3,x4,x5,x6,a7]:=h5.put 6 x6;have h7:Whole ((((((((w.setCell ⟨rb,0,none⟩ x0).setCell ⟨rb,1,none⟩ x1).setCell ⟨rb,2,none⟩ x2).setCell ⟨rb,3,none⟩ x3).setCell ⟨rb,4,none⟩ x4).setCell ⟨rb,5,none⟩ x5).setCell ⟨rb,6,none⟩ x6).setCell ⟨rb,7,none⟩ x7) rb T #[x0,x1,x2,x3,x4,x5,x6,x7]:=h6.put 7 x7;exact h7
theorem bt{w:World}{b:Nat}{T:TypeId}{c0 c1 c2 c3 c4:Value}(h:Whole w b T #[c0,c1,c2,c3,c4]):w.cell? ⟨b,0,none⟩=some c0/\w.cell? ⟨b,1,none⟩=some c1/\w.cell? ⟨b,2,none⟩=some c2/\w.cell? ⟨b,3,none⟩=some c3/\w.cell? ⟨b,4,none⟩=some c4:=
 ⟨h.cell 0,h.cell 1,h.cell 2,h.cell 3,h.cell 4⟩
theorem qE{w:World}{b:Nat}{T:TypeId}{cs:Array Value}(h:Whole w b T cs):w.frozen? ⟨b,0,none⟩=false/\w.frozen? ⟨b,1,none⟩=false/\w.frozen? ⟨b,2,none⟩=false/\w.frozen? ⟨b,3,none⟩=false/\w.frozen? ⟨b,4,none⟩=false/\w.frozen? ⟨b,5,none⟩=false/\w.frozen? ⟨b,6,none⟩=false/\w.frozen? ⟨b,7,none⟩=false:=
 ⟨h.frozen 0,h.frozen 1,h.frozen 2,h.frozen 3,h.frozen 4,h.frozen 5,h.frozen 6,h.frozen 7⟩
def PO1(O:av)(w:World)(μ:Mm)(sb rb:Nat)(x:Sl)(W:World):Prop:=MG O w μ W/\Whole W sb 176 #[.int .i64 (x.Ft:Int),.int .i64 (x.live:Int),.int .u32 (x.free:Int),.int .i64 (x.next:Int),.int .i64 (x.prev:Int)]/\∃c0 c1 c2 c3 c4 c5 c6 c7,Whole W rb 245 #[c0,c1,c2,c3,c4,c5,c6,c7]
def PO2(O:av)(w:World)(μ:Mm)(s rb:Nat)(x:Sl)(W:World):Prop:=MG O w μ W/\Whole W rb 245 (Ha O.mb s (ax μ s) x)
def Th(O:av)(w:World)(μ:Mm)(s sb rb:Nat)(x:Sl)(a b:World):Prop:=(PO1 O w μ sb rb x a->PO1 O w μ sb rb x b)/\(PO2 O w μ s rb x a->PO2 O w μ s rb x b)
theorem Th.below{s sb rb:Nat}{x:Sl}{W W2:World}(k:Below W.heap.size W W2):Th O w μ s sb rb x W W2:=
 ⟨λ⟨h1,h2,c0,c1,c2,c3,c4,c5,c6,c7,h3⟩=>⟨h1.below k,(k.block _ h2.lt).trans h2,c0,c1,c2,c3,c4,c5,c6,c7,(k.block _ h3.lt).trans h3⟩,λ⟨h1,h2⟩=>⟨h1.below k,(k.block _ h2.lt).trans h2⟩⟩
def ofF(O:av)(w:World)(μ:Mm)(s sb rb:Nat)(x:Sl):Nat->Value->World->Prop
 |0,v,_=>v= .pointer (some ⟨O.mb,0,none⟩)
 |1,v,_=>v= .int .i64 (s:Int)
 |2,v,_=>v= .pointer (some ⟨O.mb,0,none⟩)
 |3,v,_=>v= .agg #[.int .i64 (μ.Fq:Int),.int .i64 (μ.slots:Int)]
 |4,v,_=>v= .int .i64 (s:Int)
 |5,v,_=>v= .int .i64 ((ax μ s:Nat):Int)
 |6,v,_=>v= .agg #[.int .i64 (x.Ft:Int),.int .i64 (x.live:Int),.int .u32 (x.free:Int),.int .i64 (x.next:Int),.int .i64 (x.prev:Int)]
 |7,v,_=>v= .agg #[.pointer (some ⟨O.mb,0,none⟩),.int .i64 (s:Int),.int .i64 ((ax μ s:Nat):Int),.int .i64 (x.Ft:Int),.int .i64 (x.live:Int),.int .u32 (x.free:Int),.int .i64 (x.next:Int),.int .i64 (x.prev:Int)]
 |8,_,W=>PO2 O w μ s rb x W
 |_,_,_=>True
theorem Br(O:av)(w:World)(μ:Mm)(s sb rb:Nat)(x:Sl):∀(j:Nat) (v:Value) (W W':World),Th O w μ s sb rb x W W'->ofF O w μ s sb rb x j v W->ofF O w μ s sb rb x j v W'
 |0,_,_,_,_,h=>h
 |1,_,_,_,_,h=>h
 |2,_,_,_,_,h=>h
 |3,_,_,_,_,h=>h
 |4,_,_,_,_,h=>h
 |5,_,_,_,_,h=>h
 |6,_,_,_,_,h=>h
 |7,_,_,_,_,h=>h
 |8,_,_,_,k,h=>k.2 h
 |_+9,_,_,_,_,_=>trivial
theorem oU(h:ao O μ w)(s:Nat)(x:Sl)(hv:dR s μ=some x):Calls prog 190 #[.pointer (some ⟨O.mb,0,none⟩),.int .i64 (s:Int)] w λe w'=>e= .returned (.agg (Ha O.mb s (ax μ s) x))/\MG O w μ w':=by
 have YT:s<μ.Fq:=by
  unfold dR at hv;obtain⟨c,h1,hv⟩:=Fi hv;exact(fK h1).1
 obtain⟨w0,Fx⟩:=Fp (w.alloc (.cells #[.pointer none,.int .i64 0,.int .i64 0,.int .i64 0,.int .i64 0,.int .u32 0,.int .i64 0,.int .i64 0] 245));have FM:Below w.heap.size w w0:=by rw[Fx];exact(Below.refl _ w).alloc (Fm _) _
 have Gd:Whole w0 w.heap.size 245 #[.pointer none,.int .i64 0,.int .i64 0,.int .i64 0,.int .i64 0,.int .u32 0,.int .i64 0,.int .i64 0]:=by rw[Fx];exact Whole.new w _ _
 have Gn:=Fh (gx (h.below FM) s x hv);have HC:=Fh (λW (hg:MG O w μ W)=>aD hg.has);have ha:=λW (hg:MG O w μ W)=>wq μ.Fq μ.slots s W hg.has.env.Hk h.ok YT;change∀W,MG O w μ W->Calls prog _ _ W (λe w'=>e= .returned (.int .i64 ((ax μ s:Nat):Int))/\Below W.heap.size W w')at ha;have HA:=Fh ha;have FE:Hid (MG O w μ w0):=Fh ((MG.refl h).below FM);have GW:=Fh FM;have Jd:=Fh Gd;have HH:=Fh h;clear hv ha FM Gd YT;go_in;go_upto_region 1 with fail;rw[<-Fx];clear Fx;go_wp2_with fail;refine Gn.o.mono ?_;rintro e w1⟨rfl,Gz⟩;unfold LF;obtain⟨w2,FL⟩:=Fp (w1.alloc (.cells #[.int .i64 (x.Ft:Int),.int .i64 (x.live:Int),.int .u32 (x.free:Int),.int .i64 (x.next:Int),.int .i64 (x.prev:Int)] 176));have FF:Below w1.heap.size w1 w2:=by rw[FL];exact(Below.refl _ _).alloc (Fm _) _
 have IU:Whole w2 w1.heap.size 176 #[.int .i64 (x.Ft:Int),.int .i64 (x.live:Int),.int .u32 (x.free:Int),.int .i64 (x.next:Int),.int .i64 (x.prev:Int)]:=by rw[FL];exact Whole.new _ _ _
 have Gg:MG O w μ w2:=(FE.o.trans Gz).below FF;have Gc:=(FF.block _ (Whole.lt (Gz.kept.whole Jd.o (HH.o.Fu (Fm _))))).trans (Gz.kept.whole Jd.o (HH.o.Fu (Fm _)));change Whole w2 w.heap.size _ _ at Gc;have FR:w.heap.size<w1.heap.size:=Whole.lt (Gz.kept.whole Jd.o (HH.o.Fu (Fm _)));have So:Hid (PO1 O w μ w1.heap.size w.heap.size x w2.drew):=Fh ⟨Gg.below ((Below.refl _ _).drew),IU,_,_,_,_,_,_,_,_,Gc⟩;clear FF Gg Gz Gn IU Gc Jd FE GW;go_upto_region 2 with fail;rw[<-FL];obtain⟨sb,Jf⟩:=Fp w1.heap.size;rw[<-Jf]at So FR⊢;clear FL Jf;refine dq (ofF O w μ s sb w.heap.size x) (Th O w μ s sb w.heap.size x) rfl (n:=21) rfl (by kernel_rfl) (by kernel_rfl) (λw=>⟨id,id⟩) (λ_ _ _ h k=>⟨λx=>k.1 (h.1 x),λx=>k.2 (h.2 x)⟩) (Br _ _ _ _ _ _ _) ?_ ?_
 ·refine al ?_ (al ?_ (al ?_ (al ?_ (al ?_ (al ?_ (al ?_ (al ?_ (al ?_ j3))))))))
  ·intro L9 a9 W9 hm hn hp hr K9 hK;have e0:a9.tmps[0]? =some (.pointer (some ⟨O.mb,0,none⟩)):=(hm.IL hn (by rfl)).trans rfl;exact dg rfl (by go_simp) (hK _ _ rfl (Th.below (Below.refl _ _)))
  ·intro L9 a9 W9 hm hn hp hr K9 hK;have e1:a9.tmps[1]? =some (.int .i64 (s:Int)):=(hm.IL hn (by rfl)).trans rfl;exact dg rfl (by go_simp) (hK _ _ rfl (Th.below (Below.refl _ _)))
  ·intro L9 a9 W9 hm hn hp hr K9 hK;have e0:a9.tmps[0]? =some (.pointer (some ⟨O.mb,0,none⟩)):=(hm.IL hn (by rfl)).trans rfl;exact dg rfl (by go_simp) (hK _ _ rfl (Th.below (Below.refl _ _)))
  ·intro L9 a9 W9 hm hn hp hr K9 hK;obtain⟨v2,e15,IT⟩:=hm.Jo (j:=2) (t:=15) rfl rfl (hp ⟨2,.data⟩ (by simp) rfl);obtain rfl:v2= .pointer (some ⟨O.mb,0,none⟩):=IT;exact xQ rfl 77 #[.pointer (some ⟨O.mb,0,none⟩)] (by go_simp) (λv w'=>v= .agg #[.int .i64 (μ.Fq:Int),.int .i64 (μ.slots:Int)]/\Below W9.heap.size W9 w') ((HC.o W9 (hr.1 So.o).1).mono λe w' h=>⟨_,h.1,rfl,h.2⟩) (λv w' h=>hK v w' h.1 (Th.below h.2))
  ·intro L9 a9 W9 hm hn hp hr K9 hK;have e1:a9.tmps[1]? =some (.int .i64 (s:Int)):=(hm.IL hn (by rfl)).trans rfl;exact dg rfl (by go_simp) (hK _ _ rfl (Th.below (Below.refl _ _)))
  ·intro L9 a9 W9 hm hn hp hr K9 hK;obtain⟨v3,e16,XH⟩:=hm.Jo (j:=3) (t:=16) rfl rfl (hp ⟨3,.data⟩ (by simp) rfl);obtain rfl:v3= .agg #[.int .i64 (μ.Fq:Int),.int .i64 (μ.slots:Int)]:=XH;obtain⟨v4,e17,Uc⟩:=hm.Jo (j:=4) (t:=17) rfl rfl (hp ⟨4,.data⟩ (by simp) rfl);obtain rfl:v4= .int .i64 (s:Int):=Uc;exact xQ rfl 283 #[.agg #[.int .i64 (μ.Fq:Int),.int .i64 (μ.slots:Int)],.int .i64 (s:Int)] (by go_simp) (λv w'=>v= .int .i64 ((ax μ s:Nat):Int)/\Below W9.heap.size W9 w') ((HA.o W9 (hr.1 So.o).1).mono λe w' h=>⟨_,h.1,rfl,h.2⟩) (λv w' h=>hK v w' h.1 (Th.below h.2))
  ·intro L9 a9 W9 hm hn hp hr K9 hK;have e5:a9.tmps[5]? =some (.pointer (some ⟨sb,0,none⟩)):=(hm.IL hn (by rfl)).trans rfl;obtain⟨y0,y1,y2,y3,y4⟩:=bt (hr.1 So.o).2.1;exact dg rfl (by go_simp) (hK _ _ rfl (Th.below (Below.refl _ _)))
  ·intro L9 a9 W9 hm hn hp hr K9 hK;obtain⟨v0,e13,JG⟩:=hm.Jo (j:=0) (t:=13) rfl rfl (hp ⟨0,.data⟩ (by simp) rfl);obtain rfl:v0= .pointer (some ⟨O.mb,0,none⟩):=JG;obtain⟨v1,e14,Wg⟩:=hm.Jo (j:=1) (t:=14) rfl rfl (hp ⟨1,.data⟩ (by simp) rfl);obtain rfl:v1= .int .i64 (s:Int):=Wg;obtain⟨v5,e18,hf5⟩:=hm.Jo (j:=5) (t:=18) rfl rfl (hp ⟨5,.data⟩ (by simp) rfl);obtain rfl:v5= .int .i64 ((ax μ s:Nat):Int):=hf5;obtain⟨v6,e19,hf6⟩:=hm.Jo (j:=6) (t:=19) rfl rfl (hp ⟨6,.data⟩ (by simp) rfl);obtain rfl:v6= .agg #[.int .i64 (x.Ft:Int),.int .i64 (x.live:Int),.int .u32 (x.free:Int),.int .i64 (x.next:Int),.int .i64 (x.prev:Int)]:=hf6;exact dg rfl (by go_simp) (hK _ _ rfl (Th.below (Below.refl _ _)))
  ·intro L9 a9 W9 hm hn hp hr K9 hK;have e4:a9.tmps[4]? =some (.pointer (some ⟨w.heap.size,0,none⟩)):=(hm.IL hn (by rfl)).trans rfl;obtain⟨v7,e20,hf7⟩:=hm.Jo (j:=7) (t:=20) rfl rfl (hp ⟨7,.data⟩ (by simp) rfl);obtain rfl:v7= .agg #[.pointer (some ⟨O.mb,0,none⟩),.int .i64 (s:Int),.int .i64 ((ax μ s:Nat):Int),.int .i64 (x.Ft:Int),.int .i64 (x.live:Int),.int .u32 (x.free:Int),.int .i64 (x.next:Int),.int .i64 (x.prev:Int)]:=hf7;obtain⟨hg,hs,c0,c1,c2,c3,c4,c5,c6,c7,hw⟩:=hr.1 So.o;obtain⟨f0,f1,f2,f3,f4,f5,f6,f7⟩:=qE hw;obtain⟨z0,z1,z2,z3,z4,z5,z6,z7⟩:=bg hw;have KA:=EA hw (.pointer (some ⟨O.mb,0,none⟩)) (.int .i64 (s:Int)) (.int .i64 ((ax μ s:Nat):Int)) (.int .i64 (x.Ft:Int)) (.int .i64 (x.live:Int)) (.int .u32 (x.free:Int)) (.int .i64 (x.next:Int)) (.int .i64 (x.prev:Int));have Ti:∀(W:World) (i:Nat) (u:Value),MG O w μ W->MG O w μ (W.setCell ⟨w.heap.size,i,none⟩ u):=λW i u h=>h.box HH.o (Fm _) u;have hG8:=Ti _ 7 (.int .i64 (x.prev:Int)) (Ti _ 6 (.int .i64 (x.next:Int)) (Ti _ 5 (.int .u32 (x.free:Int)) (Ti _ 4 (.int .i64 (x.live:Int)) (Ti _ 3 (.int .i64 (x.Ft:Int)) (Ti _ 2 (.int .i64 ((ax μ s:Nat):Int)) (Ti _ 1 (.int .i64 (s:Int)) (Ti _ 0 (.pointer (some ⟨O.mb,0,none⟩)) hg)))))));have VF:∀(W:World) (i:Nat) (u:Value),Whole W sb 176 #[.int .i64 (x.Ft:Int),.int .i64 (x.live:Int),.int .u32 (x.free:Int),.int .i64 (x.next:Int),.int .i64 (x.prev:Int)]->Whole (W.setCell ⟨w.heap.size,i,none⟩ u) sb 176 #[.int .i64 (x.Ft:Int),.int .i64 (x.live:Int),.int .u32 (x.free:Int),.int .i64 (x.next:Int),.int .i64 (x.prev:Int)]:=λW i u h=>((aa.refl (λk=>k=w.heap.size) W).setCell (p:=⟨w.heap.size,i,none⟩) (.inl rfl) u).whole h (by omega);have hS8:=VF _ 7 (.int .i64 (x.prev:Int)) (VF _ 6 (.int .i64 (x.next:Int)) (VF _ 5 (.int .u32 (x.free:Int)) (VF _ 4 (.int .i64 (x.live:Int)) (VF _ 3 (.int .i64 (x.Ft:Int)) (VF _ 2 (.int .i64 ((ax μ s:Nat):Int)) (VF _ 1 (.int .i64 (s:Int)) (VF _ 0 (.pointer (some ⟨O.mb,0,none⟩)) hs)))))));obtain⟨w8,Ql⟩:∃w8,w8=((((((((W9.setCell ⟨w.heap.size,0,none⟩ (.pointer (some ⟨O.mb,0,none⟩))).setCell ⟨w.heap.size,1,none⟩ (.int .i64 (s:Int))).setCell ⟨w.heap.size,2,none⟩ (.int .i64 ((ax μ s:Nat):Int))).setCell ⟨w.heap.size,3,none⟩ (.int .i64 (x.Ft:Int))).setCell ⟨w.heap.size,4,none⟩ (.int .i64 (x.live:Int))).setCell ⟨w.heap.size,5,none⟩ (.int .u32 (x.free:Int))).setCell ⟨w.heap.size,6,none⟩ (.int .i64 (x.next:Int))).setCell ⟨w.heap.size,7,none⟩ (.int .i64 (x.prev:Int))):=⟨_,rfl⟩;rw[<-Ql]at KA hG8 hS8;refine Bf (w':=w8) rfl (by rw[Ql];go_simp) (hK undef _ ⟨hG8,KA⟩ ⟨λ_=>⟨hG8,hS8,_,_,_,_,_,_,_,_,KA⟩,λ_=>⟨hG8,KA⟩⟩)
 ·intro vs w3 hF hR;have h8:PO2 O w μ s w.heap.size x w3:=hF 8 (by decide);have H8:=Fh h8;clear hF h8 hR So HC HA HH;simp only [cw,Act.put,List.setIfInBounds_toArray,List.set_cons_zero,List.set_cons_succ,Nat.zero_add,Nat.reduceAdd];go_wp2_with fail;refine bodyPost_ret (results_cell_row rfl _ _ w.heap.size 245 _ (0,0) _ rfl H8.o.2 underlying245 rfl (by kernel_rfl)) rfl ?_;exact⟨rfl,H8.o.1⟩
end
end Go.Proofs.YtifkphcaelafjaaGreatDoor
