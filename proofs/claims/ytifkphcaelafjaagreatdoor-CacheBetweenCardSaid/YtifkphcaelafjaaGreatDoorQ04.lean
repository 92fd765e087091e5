/-
  Lemmas on the way to the row. No condition beyond their own.
-/
import Derived.Laws.IdiomCopy
import Derived.RangeFuncBound
import Derived.RangeFuncBox
import Derived.RangeFuncCalls
import Derived.RangeFuncFrom
import Derived.RangeFuncLeaves
import Derived.RangeFuncNested
import Derived.Shelf.Abstract
import Derived.Test.YtifkphcaelafjaaGreatDoorQ03
set_option maxHeartbeats 25600000
set_option maxRecDepth 100000
set_option linter.unusedVariables false
set_option linter.unusedSimpArgs false
namespace Go.Proofs.YtifkphcaelafjaaGreatDoor
open Tryz
open Go.RowKit Go.Colm Go.FC Go.Maps
section
variable{O:av}{μ:Mm}{w:World}
def lT(l:List Nat)(k:Nat):Array Value:= #[
 .int .u64 ((if 0<k then l.getD 0 0 else 0:Nat):Int),.int .u64 ((if 1<k then l.getD 1 0 else 0:Nat):Int),.int .u64 ((if 2<k then l.getD 2 0 else 0:Nat):Int),.int .u64 ((if 3<k then l.getD 3 0 else 0:Nat):Int),
 .int .u64 ((if 4<k then l.getD 4 0 else 0:Nat):Int),.int .u64 ((if 5<k then l.getD 5 0 else 0:Nat):Int),.int .u64 ((if 6<k then l.getD 6 0 else 0:Nat):Int),.int .u64 ((if 7<k then l.getD 7 0 else 0:Nat):Int),
 .int .u64 ((if 8<k then l.getD 8 0 else 0:Nat):Int),.int .u64 ((if 9<k then l.getD 9 0 else 0:Nat):Int),.int .u64 ((if 10<k then l.getD 10 0 else 0:Nat):Int),.int .u64 ((if 11<k then l.getD 11 0 else 0:Nat):Int)]
theorem Bs(l:List Nat):lT l 12=dO (jd l):=rfl
theorem Bu(l:List Nat){k:Nat}(h:k<12):(lT l k).setIfInBounds k (.int .u64 (l.getD k 0:Nat))=lT l (k+1):=by
 have hc:k=0\/k=1\/k=2\/k=3\/k=4\/k=5\/k=6\/k=7\/k=8\/k=9\/k=10\/k=11:=by omega
 rcases hc with rfl|rfl|rfl|rfl|rfl|rfl|rfl|rfl|rfl|rfl|rfl|rfl<;>rfl
theorem zy(l:List Nat){k:Nat}(h:k<12)(h0:l.getD k 0=0):lT l (k+1)=lT l k:=by
 have hc:k=0\/k=1\/k=2\/k=3\/k=4\/k=5\/k=6\/k=7\/k=8\/k=9\/k=10\/k=11:=by omega
 rw[List.getD_eq_getElem?_getD]at h0;rcases hc with rfl|rfl|rfl|rfl|rfl|rfl|rfl|rfl|rfl|rfl|rfl|rfl<;>simp[lT,h0]
theorem Bv(l:List Nat)(k:Nat)(h:k<12):∃u,(lT l k)[k]? =some u:=by
 have hs:(lT l k).size=12:=rfl;exact⟨_,Array.getElem?_eq_getElem (by omega)⟩
theorem oV{a t k:Nat}:∀(n f:Nat) (l:List Nat),tQ a t k μ f n=some l->l.length=n/\∀i,i<n->S9 a t k (f+i) μ=some (l.getD i 0)
 |0,f,l,h=>by
  rw[tQ]at h;obtain rfl:=Fk h;exact⟨rfl,λi hi=>by omega⟩
 |n+1,f,l,h=>by
  rw[tQ]at h;obtain⟨v,h1,h⟩:=Fi h;obtain⟨r,h2,h⟩:=Fi h;obtain rfl:=Fk h;obtain⟨h3,h4⟩:=oV n (f+1) r h2;refine⟨by simp[h3],λi hi=> ?_⟩;rcases i with _|i
  ·exact h1
  ·have:=h4 i (by omega);rw[show f+1+i=f+(i+1)by omega]at this;exact this
theorem Bw{a t k f v:Nat}(h:S9 a t k f μ=some v):v<256^(FO t f).2:=by
 unfold S9 at h;split at h
 ·rename_i hz
  obtain rfl:=Fk h;rw[hz];decide
 ·exact oO h
theorem xX{a t k:Nat}{l:List Nat}(h:tQ a t k μ 0 12=some l):qC (jd l):=by
 obtain⟨h1,h2⟩:=oV 12 0 l h;have hw:∀f,f<12->l.getD f 0<256^(FO t f).2:=λf hf=>by
  have:=h2 f hf;rw[Nat.zero_add]at this;exact Bw this
 have hb:∀(f W:Nat),f<12->(FO t f).2<=W->l.getD f 0<256^W:=λf W hf hW=>Nat.lt_of_lt_of_le (hw f hf) (Nat.pow_le_pow_right (by decide) hW);have Tj:∀(f W:Nat),f<12->(∀t,t<3->(FO t f).2<=W)->l.getD f 0<256^W:=λf W hf hW=>hb f W hf (by
  rcases Nat.lt_or_ge 2 t with ht|ht
  ·rw[jZ ht];exact Nat.zero_le _
  ·exact hW t (by omega))
 exact⟨Tj 0 1 (by omega) (by decide),Tj 1 1 (by omega) (by decide),Tj 2 1 (by omega) (by decide),Tj 3 1 (by omega) (by decide),Tj 4 4 (by omega) (by decide),Tj 5 4 (by omega) (by decide),Tj 6 4 (by omega) (by decide),Tj 7 8 (by omega) (by decide),Tj 8 2 (by omega) (by decide),Tj 9 2 (by omega) (by decide),Tj 10 4 (by omega) (by decide),Tj 11 4 (by omega) (by decide)⟩
theorem fL{a:Nat}{b:Bk}{e:Nat}(h:da a μ=some (b,e)):qC b:=by
 unfold da at h;obtain⟨q,h1,h⟩:=Fi h;have hz:qC {}:=⟨by decide,by decide,by decide,by decide,by decide,by decide,by decide,by decide,by decide,by decide,by decide,by decide⟩;split at h
 ·have h2:=Fk h;injection h2 with e1 e2;subst e1;exact hz
 ·split at h
  ·have h2:=Fk h;injection h2 with e1 e2;subst e1;exact hz
  ·obtain⟨l,h2,h⟩:=Fi h;split at h
   ·have h2:=Fk h;injection h2 with e1 e2;subst e1;exact hz
   ·have h3:=Fk h;injection h3 with e1 e2;subst e1;exact xX h2
theorem MG.KB{rb:Nat}{w':World}(hg:MG O w μ w')(hh:ao O μ w)(hb:w.heap.size<=rb)(x0 x1 x2 x3 x4 x5 x6 x7 x8 x9 IQ I2:Value):MG O w μ ((((((((((((w'.setCell ⟨rb,0,none⟩ x0).setCell ⟨rb,1,none⟩ x1).setCell ⟨rb,2,none⟩ x2).setCell ⟨rb,3,none⟩ x3).setCell ⟨rb,4,none⟩ x4).setCell ⟨rb,5,none⟩ x5).setCell ⟨rb,6,none⟩ x6).setCell ⟨rb,7,none⟩ x7).setCell ⟨rb,8,none⟩ x8).setCell ⟨rb,9,none⟩ x9).setCell ⟨rb,10,none⟩ IQ).setCell ⟨rb,11,none⟩ I2):=(MG.box hh (MG.box hh (MG.box hh (MG.box hh (MG.box hh (MG.box hh (MG.box hh (MG.box hh (MG.box hh (MG.box hh (MG.box hh (MG.box hh hg (p:=⟨rb,0,none⟩) hb x0) (p:=⟨rb,1,none⟩) hb x1) (p:=⟨rb,2,none⟩) hb x2) (p:=⟨rb,3,none⟩) hb x3) (p:=⟨rb,4,none⟩) hb x4) (p:=⟨rb,5,none⟩) hb x5) (p:=⟨rb,6,none⟩) hb x6) (p:=⟨rb,7,none⟩) hb x7) (p:=⟨rb,8,none⟩) hb x8) (p:=⟨rb,9,none⟩) hb x9) (p:=⟨rb,10,none⟩) hb IQ) (p:=⟨rb,11,none⟩) hb I2)
theorem gy(h:ao O μ w)(a:Nat)(b:Bk)(er:Nat)(ha:a<4294967296)(hv:da a μ=some (b,er)):Calls prog 176 #[.pointer (some ⟨O.mb,0,none⟩),.int .i64 (a:Int)] w λe w'=>e= .returned (.tuple #[.agg (G0 b),.int .i64 (er:Int)])/\MG O w μ w':=by
 unfold da at hv;obtain⟨⟨t,k⟩,hl,hv⟩:=Fi hv;dsimp only at hv;obtain⟨w0,Fx⟩:=Fp (w.alloc (.cells #[.int .i64 0,.int .i64 0,.bool false,.int .i64 0,.int .u32 0,.int .u32 0,.int .u32 0,.int .u32 0,.int .u64 0,.int .u16 0,.int .i64 0,.int .u32 0] 165));have GK:MG O w μ w0:=by rw[Fx];exact(MG.refl h).alloc _
 have Gd:Whole w0 w.heap.size 165 #[.int .i64 0,.int .i64 0,.bool false,.int .i64 0,.int .u32 0,.int .u32 0,.int .u32 0,.int .u32 0,.int .u64 0,.int .u16 0,.int .i64 0,.int .u32 0]:=by rw[Fx];exact Whole.new w _ _
 have YQ:=Fh (oR GK.has a t k ha hl);have FE:=Fh GK;have Jd:=Fh Gd;have HH:=Fh h;have hkt:=mP hl;clear h GK Gd hl;go_in;go_upto_region 1 with fail;rw[<-Fx];clear Fx;go_wp2_with fail;refine YQ.o.mono ?_;rintro e w1⟨rfl,hg⟩;have J5:Hid (Whole w1 w.heap.size 165 #[.int .i64 0,.int .i64 0,.bool false,.int .i64 0,.int .u32 0,.int .u32 0,.int .u32 0,.int .u32 0,.int .u64 0,.int .u16 0,.int .i64 0,.int .u32 0]):=Fh (hg.kept.whole Jd.o (HH.o.Fu (Fm _)));have FA:=Fh (FE.o.trans hg);clear hg YQ;by_cases hk:k≠5/\k≠6
 ·rw[if_pos hk]at hv;have h2:=Fk hv;injection h2 with e1 e2;subst e1 e2;have q5:((k:Int) !=5)=true:=by rw[bne_iff_ne];omega
  have q6:((k:Int) !=6)=true:=by rw[bne_iff_ne];omega
  clear hv hk;obtain⟨z0,z1,z2,z3,z4,z5,z6,z7,z8,z9,XF,XG⟩:=aZ J5.o;obtain⟨f0,f1,f2,f3,f4,f5,f6,f7,f8,f9,f10,f11⟩:=fI J5.o;go_wp2_with fail;refine bodyPost_ret (aB rfl _ _ w.heap.size 165 _ (0,0) _ rfl (ff J5.o _ _ _ _ _ _ _ _ _ _ _ _) underlying165 rfl (by kernel_rfl)) rfl ?_;exact⟨rfl,FA.o.KB HH.o (Fm _) _ _ _ _ _ _ _ _ _ _ _ _⟩
 ·rw[if_neg hk]at hv;by_cases ht:2<t
  ·rw[if_pos ht]at hv;have h2:=Fk hv;injection h2 with e1 e2;subst e1 e2;have t2:decide (t<=2)=false:=by simp;omega
   obtain⟨z0,z1,z2,z3,z4,z5,z6,z7,z8,z9,XF,XG⟩:=aZ J5.o;obtain⟨f0,f1,f2,f3,f4,f5,f6,f7,f8,f9,f10,f11⟩:=fI J5.o;have Ud:k=5\/k=6:=by omega
   clear hv hk;rcases Ud with rfl|rfl
   ·go_wp2_with fail;refine(lQ _ _).mono ?_;rintro e w2⟨rfl,rfl⟩;go_wp2_with fail;refine bodyPost_ret (aB rfl _ _ w.heap.size 165 _ (0,0) _ rfl (ff J5.o _ _ _ _ _ _ _ _ _ _ _ _) underlying165 rfl (by kernel_rfl)) rfl ?_;exact⟨rfl,FA.o.KB HH.o (Fm _) _ _ _ _ _ _ _ _ _ _ _ _⟩
   ·go_wp2_with fail;refine(lQ _ _).mono ?_;rintro e w2⟨rfl,rfl⟩;go_wp2_with fail;refine bodyPost_ret (aB rfl _ _ w.heap.size 165 _ (0,0) _ rfl (ff J5.o _ _ _ _ _ _ _ _ _ _ _ _) underlying165 rfl (by kernel_rfl)) rfl ?_;exact⟨rfl,FA.o.KB HH.o (Fm _) _ _ _ _ _ _ _ _ _ _ _ _⟩
  ·rw[if_neg ht]at hv;obtain⟨l,hl,hv⟩:=Fi hv;have Ud:k=5\/k=6:=by omega
   have t2:decide (t<=2)=true:=by simp;omega
   obtain⟨hlen,Ib⟩:=oV 12 0 l hl;have Sq:Hid (∀f,f<12->S9 a t k f μ=some (l.getD f 0)):=Fh (λf hf=>by
    have:=Ib f hf
    rwa [Nat.zero_add]at this)
   have II:=Fh (xX hl);have HV:=Fh hv;have YS:=Fh (oM t);have Jv:=Fh (λW (hg:MG O w μ W) f (hf:f<12)=>dx t f W hg.has.env hf);have HNO':Hid (∀k,w.heap.size<=k->¬au O k):=Fh (λk hk=>HH.o.Fu hk);obtain⟨w2,FL⟩:=Fp (w1.alloc (.cells (lT l 0) 305));have FF:Below w1.heap.size w1 w2:=by rw[FL];exact(Below.refl _ _).alloc (Fm _) _
   have FK:Hid (MG O w μ w2):=Fh (FA.o.below FF);have KO:Hid (Whole w2 w.heap.size 165 #[.int .i64 0,.int .i64 0,.bool false,.int .i64 0,.int .u32 0,.int .u32 0,.int .u32 0,.int .u32 0,.int .u64 0,.int .u16 0,.int .i64 0,.int .u32 0]):=Fh ((FF.block _ J5.o.lt).trans J5.o);have QQ:Hid (Whole w2 w1.heap.size 305 (lT l 0)):=Fh (by rw[FL];exact Whole.new w1 _ _);obtain⟨nb,IJ⟩:=Fp w1.heap.size;have hlt1:w.heap.size<nb:=by rw[IJ];exact J5.o.lt
   rw[<-IJ]at QQ;have YR:=Fh IJ;clear IJ;have ez:lT l 0= #[.int .u64 0,.int .u64 0,.int .u64 0,.int .u64 0,.int .u64 0,.int .u64 0,.int .u64 0,.int .u64 0,.int .u64 0,.int .u64 0,.int .u64 0,.int .u64 0]:=rfl;rw[ez]at FL;clear hk ht hl hlen Ib hv ez FF;rcases Ud with rfl|rfl
   all_goals
    go_wp2_with fail;refine(lQ _ _).mono ?_;rintro e w1⟨rfl,rfl⟩;go_upto_region 7 with fail;rw[<-FL];rw[<-YR.o];clear FL;go_wp2_with fail
    go_loopw [5,9,10,11,12,33] (λs5 _ _ _ _ s33 wr=>∃f:Nat,f<=12/\s5= .int .i64 0/\s33= .int .i64 f/\Hid (MG O w μ wr)/\Hid (Whole wr w.heap.size 165 #[.int .i64 0,.int .i64 0,.bool false,.int .i64 0,.int .u32 0,.int .u32 0,.int .u32 0,.int .u32 0,.int .u64 0,.int .u16 0,.int .i64 0,.int .u32 0])/\Hid (Whole wr nb 305 (lT l f))) (λ_ _ _ _ _ s33 _=>match s33 with| .int _ m=>12-m.toNat|_=>0)
    case atStart=>exact⟨0,by omega,rfl,rfl,FK,KO,QQ⟩
    case round=>
     obtain⟨f,hf,rfl,rfl,HG,HR,HN⟩:=hrel;by_cases FR:f<12
     ·go_wp2_with fail;refine(Jv.o _ HG.o f FR).mono ?_;rintro e w5⟨rfl,Io⟩;have MH:=Sq.o f FR;unfold S9 at MH;obtain⟨w6,JR⟩:=Fp (w5.alloc (.cells #[.int .i64 ((FO t f).1:Nat),.int .i64 ((FO t f).2:Nat)] 308));have I3:Below w5.heap.size w5 w6:=by rw[JR];exact(Below.refl _ _).alloc (Fm _) _
      have Ou:Whole w6 w5.heap.size 308 #[.int .i64 ((FO t f).1:Nat),.int .i64 ((FO t f).2:Nat)]:=by rw[JR];exact Whole.new w5 _ _
      have GP:Hid (MG O w μ w6):=Fh ((HG.o.below Io).below I3);have YU:Hid (Whole w6 w.heap.size 165 #[.int .i64 0,.int .i64 0,.bool false,.int .i64 0,.int .u32 0,.int .u32 0,.int .u32 0,.int .u32 0,.int .u64 0,.int .u16 0,.int .i64 0,.int .u32 0]):=Fh ((I3.block _ (Whole.lt ((Io.block _ HR.o.lt).trans HR.o))).trans ((Io.block _ HR.o.lt).trans HR.o));have HN6:Hid (Whole w6 nb 305 (lT l f)):=Fh ((I3.block _ (Whole.lt ((Io.block _ HN.o.lt).trans HN.o))).trans ((Io.block _ HN.o.lt).trans HN.o));have n0:=GP.o.has.env.hn 0 (by omega);have n1:=GP.o.has.env.hn 1 (by omega);have x0:w6.cell? ⟨w5.heap.size,0,none⟩=some (.int .i64 ((FO t f).1:Nat)):=Ou.cell 0;have x1:w6.cell? ⟨w5.heap.size,1,none⟩=some (.int .i64 ((FO t f).2:Nat)):=Ou.cell 1;clear Io I3 Ou;by_cases hz:(FO t f).2=0
      ·rw[if_pos hz]at MH;have h0:l.getD f 0=0:=(Fk MH).symm;have HE:=Fh (zy l FR h0);rw[jr hz]at JR x0 x1⊢;have z0:((0:Nat):Int)=0:=rfl;rw[z0]at JR x0 x1;clear z0;clear hz MH h0;go_upto_region 11 with fail;rw[<-JR];clear JR;go_wp2;go_roundw
       case rel=>exact⟨f+1,by omega,rfl,by go_num,GP,YU,Fh (by rw[HE.o];exact HN6.o)⟩
       case measure=>simp;omega
      ·rw[if_neg hz]at MH;obtain⟨p1,LS⟩:=Fp ((FO t f).1);obtain⟨p2,Jn⟩:=Fp ((FO t f).2);obtain⟨v,hvv⟩:=Fp (l.getD f 0);have HT:=Fh (wK GP.o.has a (FO t f).1 (FO t f).2 _ _ MH);have HPUT:=Fh (Bu l FR);rw[<-hvv]at HT HPUT;rw[<-LS,<-Jn]at HT JR⊢;rw[<-LS]at x0;rw[<-Jn]at x1;rw[<-Jn]at hz;have G7:((p2:Int)==0)=false:=by rw[Fo];omega
       clear hz MH hvv LS Jn;go_upto_region 11 with fail;rw[<-JR];clear JR;go_wp2_with fail;refine HT.o.mono ?_;rintro e w7⟨rfl,J1⟩;have Iv:=Fh (GP.o.trans J1);have Wd:=Fh (J1.kept.whole YU.o (HNO'.o _ (Fm _)));have HN7:=Fh (J1.kept.whole HN6.o (HNO'.o _ (by omega)));obtain⟨u,hu⟩:=Bv l f FR;have y7:w7.cell? ⟨nb,f,none⟩=some u:=(HN7.o.cell f).trans hu;have f7:=HN7.o.frozen f;have LG:Hid (∀v',MG O w μ (w7.setCell ⟨nb,f,none⟩ v')/\Whole (w7.setCell ⟨nb,f,none⟩ v') w.heap.size 165 #[.int .i64 0,.int .i64 0,.bool false,.int .i64 0,.int .u32 0,.int .u32 0,.int .u32 0,.int .u32 0,.int .u64 0,.int .u16 0,.int .i64 0,.int .u32 0]/\Whole (w7.setCell ⟨nb,f,none⟩ v') nb 305 ((lT l f).setIfInBounds f v')):=Fh (λv'=>
        ⟨MG.box HH.o Iv.o (p:=⟨nb,f,none⟩) (by dsimp only;omega) v',aa.whole (S:=λk=>k=nb) ((aa.refl (λk=>k=nb) w7).setCell (p:=⟨nb,f,none⟩) (.inl rfl) _) Wd.o (by show¬_=_;omega),HN7.o.put f v'⟩)
       clear J1 hu;go_wp2;go_roundw
       case rel=>exact⟨f+1,by omega,rfl,by go_num,Fh (LG.o _).1,Fh (LG.o _).2.1,Fh (by rw[<-HPUT.o];exact(LG.o _).2.2)⟩
       case measure=>simp;omega
     ·have hff:f=12:=by omega
      subst hff;obtain⟨b0,FM⟩:=Fp (jd l);have Wh:=HN.o;rw[Bs,<-FM]at Wh;obtain⟨z0,z1,z2,z3,z4,z5,z6,z7,z8,z9,XF,XG⟩:=aZ Wh;have HBLK:=Fh (zj b0 wr (by rw[FM];exact II.o));have GW:=Fh (show qC b0 by rw[FM];exact II.o);have hv:=HV.o;rw[<-FM]at hv;have Ue:=Fh Wh;unfold dO G0 at HBLK;clear FM Wh FR;go_wp2_with fail;refine HBLK.o.mono ?_;rintro e w9⟨rfl,VC⟩;obtain⟨LV,QR⟩:=Fp (w9.alloc (.cells (G0 b0) 165));have Ld:Below w9.heap.size w9 LV:=by rw[QR];exact(Below.refl _ _).alloc (Fm _) _
      have YV:Whole LV w9.heap.size 165 (G0 b0):=by rw[QR];exact Whole.new w9 _ _
      have HGA:Hid (MG O w μ LV):=Fh ((HG.o.below VC).below Ld);have Qo:Hid (Whole LV w.heap.size 165 #[.int .i64 0,.int .i64 0,.bool false,.int .i64 0,.int .u32 0,.int .u32 0,.int .u32 0,.int .u32 0,.int .u64 0,.int .u16 0,.int .i64 0,.int .u32 0]):=Fh ((Ld.block _ (Whole.lt ((VC.block _ HR.o.lt).trans HR.o))).trans ((VC.block _ HR.o.lt).trans HR.o));have hnA:Whole LV nb 305 (dO b0):=(Ld.block _ (Whole.lt ((VC.block _ Ue.o.lt).trans Ue.o))).trans ((VC.block _ Ue.o.lt).trans Ue.o);have u2:LV.cell? ⟨nb,2,none⟩=some (.int .u64 (b0.used:Int)):=hnA.cell 2;obtain⟨x0,x1,x2,x3,x4,x5,x6,x7,x8,x9,IQ,I2⟩:=aZ YV;obtain⟨r0,r1,r2,r3,r4,r5,r6,r7,r8,r9,r10,r11⟩:=aZ Qo.o;obtain⟨f0,f1,f2,f3,f4,f5,f6,f7,f8,f9,f10,f11⟩:=fI Qo.o;have HRB:=Fh YV;have YW:=Fh (λ(hu:b0.used<=1)=>xU b0 LV GW.o hu HGA.o.has.env);unfold G0 at QR YW;clear VC Ld YV hnA z0 z1 z2 z3 z4 z5 z6 z7 z8 z9 XF XG;go_upto_region 18 with fail;rw[<-QR];clear QR;by_cases ht:b0.tag=t
      ·have d1:((b0.tag:Int) !=(t:Int))=false:=by rw[ht];simp
       by_cases hu:b0.used<=1
       ·have d2:decide ((1:Int)<(b0.used:Int))=false:=by simp;omega
        have Nc:=Fh (YW.o hu);have HC:Hid (¬(b0.tag≠t\/1<b0.used)):=Fh (by omega);have Qn:=Fh hv;clear ht hv;go_wp2_with fail;refine Nc.o.mono ?_;rintro e NU⟨rfl,hbB⟩;have HGX:Hid (MG O w μ NU):=Fh (HGA.o.below hbB);have XN:Hid (Whole NU w.heap.size 165 #[.int .i64 0,.int .i64 0,.bool false,.int .i64 0,.int .u32 0,.int .u32 0,.int .u32 0,.int .u32 0,.int .u64 0,.int .u16 0,.int .i64 0,.int .u32 0]):=Fh ((hbB.block _ Qo.o.lt).trans Qo.o);have H9:Whole NU w9.heap.size 165 (G0 b0):=(hbB.block _ HRB.o.lt).trans HRB.o;clear hbB x0 x1 x2 x3 x4 x5 x6 x7 x8 x9 IQ I2 r0 r1 r2 r3 r4 r5 r6 r7 r8 r9 r10 r11 f0 f1 f2 f3 f4 f5 f6 f7 f8 f9 f10 f11;obtain⟨x0,x1,x2,x3,x4,x5,x6,x7,x8,x9,IQ,I2⟩:=aZ H9;obtain⟨r0,r1,r2,r3,r4,r5,r6,r7,r8,r9,r10,r11⟩:=aZ XN.o;obtain⟨f0,f1,f2,f3,f4,f5,f6,f7,f8,f9,f10,f11⟩:=fI XN.o;clear H9;cases Tk:bn b0
        ·have hv:=Qn.o;rw[if_pos (.inr (.inr Tk))]at hv;have h2:=Fk hv;injection h2 with e1 e2;subst e1 e2;clear hv Tk;go_wp2_with fail;refine bodyPost_ret (aB rfl _ _ w.heap.size 165 _ (0,0) _ rfl (ff XN.o _ _ _ _ _ _ _ _ _ _ _ _) underlying165 rfl (by kernel_rfl)) rfl ?_;exact⟨rfl,HGX.o.KB HH.o (Fm _) _ _ _ _ _ _ _ _ _ _ _ _⟩
        ·have hv:=Qn.o;rw[if_neg (by rintro(h|h|h);exact HC.o (.inl h);exact HC.o (.inr h);rw[Tk]at h;cases h)]at hv;have h2:=Fk hv;injection h2 with e1 e2;have VG:=Fh e1;have Pu:=Fh e2;clear hv Tk e1 e2 HV Qn;go_wp2_with fail;refine bodyPost_ret (aB rfl _ _ w.heap.size 165 _ (0,0) _ rfl (ff XN.o _ _ _ _ _ _ _ _ _ _ _ _) underlying165 rfl (by kernel_rfl)) rfl ?_;exact⟨by rw[<-VG.o,<-Pu.o];rfl,HGX.o.KB HH.o (Fm _) _ _ _ _ _ _ _ _ _ _ _ _⟩
       ·have d2:decide ((1:Int)<(b0.used:Int))=true:=by simp;omega
        rw[if_pos (.inr (.inl (by omega)))]at hv;have h2:=Fk hv;injection h2 with e1 e2;subst e1 e2;have XN:=Qo;clear ht hv;go_wp2_with fail;refine bodyPost_ret (aB rfl _ _ w.heap.size 165 _ (0,0) _ rfl (ff XN.o _ _ _ _ _ _ _ _ _ _ _ _) underlying165 rfl (by kernel_rfl)) rfl ?_;exact⟨rfl,HGA.o.KB HH.o (Fm _) _ _ _ _ _ _ _ _ _ _ _ _⟩
      ·have d1:((b0.tag:Int) !=(t:Int))=true:=by rw[bne_iff_ne];omega
       rw[if_pos (.inl ht)]at hv;have h2:=Fk hv;injection h2 with e1 e2;subst e1 e2;have XN:=Qo;clear hv;go_wp2_with fail;refine bodyPost_ret (aB rfl _ _ w.heap.size 165 _ (0,0) _ rfl (ff XN.o _ _ _ _ _ _ _ _ _ _ _ _) underlying165 rfl (by kernel_rfl)) rfl ?_;exact⟨rfl,HGA.o.KB HH.o (Fm _) _ _ _ _ _ _ _ _ _ _ _ _⟩
end
section
variable{O:av}{μ:Mm}{w:World}
set_option maxRecDepth 20000 in
theorem cO(h:ao O μ w)(a f v:Nat)(μ':Mm)(ha:a<4294967296)(hf:f<12)(hv:bE a f v μ=some μ'):Calls prog 276 #[.pointer (some ⟨O.mb,0,none⟩),.int .i64 (a:Int),.int .i64 (f:Int),.int .u64 (v:Int)] w λe w'=>e= .returned (.bool true)/\MG O w μ' w':=by
 obtain⟨⟨t,k⟩,hl,hv⟩:=Fi hv;dsimp only at hv;have YQ:=Fh (oR h a t k ha hl);have Jv:=Fh (λW (hg:MG O w μ W)=>dx t f W hg.has.env hf);have HH:=Fh h;have hle:=oM t f;by_cases hz:(FO t f).2=0
 ·rw[if_pos hz]at hv;cases hv
 ·rw[if_neg hz]at hv;have hk:=(mP hl).2;obtain⟨p1,LS⟩:=Fp ((FO t f).1);obtain⟨p2,Jn⟩:=Fp ((FO t f).2);rw[<-LS,<-Jn]at Jv hv hle;rw[<-Jn]at hz;have ME:=λW (hg:MG O w μ W)=>fo hg.has (a+p1) p2 k v μ' hv;simp only [show((a+p1:Nat):Int)=(a:Int)+(p1:Int)by omega]at ME;have O4:=Fh ME;have G7:((p2:Int)==0)=false:=by rw[Fo];omega
  clear h hv hl hz LS Jn ME;go_in;go_wp2_with fail;refine YQ.o.mono ?_;rintro e w1⟨rfl,Gz⟩;have FA:=Fh Gz;clear Gz;go_wp2_with fail;refine(Jv.o _ FA.o).mono ?_;rintro e w2⟨rfl,FF⟩;have FK:=Fh (FA.o.below FF);clear FF;obtain⟨w3,F7⟩:=Fp (w2.alloc (.cells #[.int .i64 (p1:Int),.int .i64 (p2:Int)] 308));have FZ:MG O w μ w3:=by rw[F7];exact FK.o.alloc _
  have Jq:Whole w3 w2.heap.size 308 #[.int .i64 (p1:Int),.int .i64 (p2:Int)]:=by rw[F7];exact Whole.new w2 _ _
  have n0:=FZ.has.env.hn 0 (by omega);have n1:=FZ.has.env.hn 1 (by omega);have x0:w3.cell? ⟨w2.heap.size,0,none⟩=some (.int .i64 (p1:Int)):=Jq.cell 0;have x1:w3.cell? ⟨w2.heap.size,1,none⟩=some (.int .i64 (p2:Int)):=Jq.cell 1;have FT:=Fh FZ;clear FZ Jq;go_upto_region 3 with fail;rw[<-F7];clear F7;go_wp2_with fail;refine(O4.o _ FT.o).mono ?_;rintro e w4⟨rfl,F9⟩;have FW:=Fh (FT.o.trans F9);clear F9;go_wp2;go_ret;exact⟨rfl,FW.o⟩
theorem oh(h:ao O μ w)(a:Nat)(b:Bk)(μ':Mm)(ha:a<4294967296)(hb:qC b)(hu:b.used<=1)(hv:gk a b μ=some μ'):Calls prog 171 #[.pointer (some ⟨O.mb,0,none⟩),.int .i64 (a:Int),.agg (G0 b)] w λe w'=>e= .returned (.int .i64 0)/\MG O w μ' w':=by
 unfold gk at hv;have Tk:bn b=true:=by
  cases hq:bn b
  ·rw[hq,if_neg (by simp)]at hv;cases hv
  ·rfl
 rw[if_pos Tk]at hv;obtain⟨w1,FJ⟩:=Fp (w.alloc (.cells (G0 b) 165));have Gp:Whole w1 w.heap.size 165 (G0 b):=by rw[FJ];exact Whole.new w _ _
 have FN:Below w.heap.size w w1:=by rw[FJ];exact(Below.refl _ w).alloc (Fm _) _
 have QS:=xU b w1 hb hu (h.below FN).env;rw[Tk]at QS;have HR:=Fh QS;have HNM:=Fh (λW=>nN b W hb hu);have HIX:=Fh (λi (h:i<12) W=>jq b i h W);have HH:=Fh h;have FA:Hid (MG O w μ w1):=Fh ((MG.refl h).below FN);have GH:=Fh Gp;have KR:Hid (¬au O w.heap.size):=Fh (h.Fu (Fm _));obtain⟨x0,x1,x2,x3,x4,x5,x6,x7,x8,x9,IQ,I2⟩:=aZ Gp;obtain⟨nv,hnv⟩:=Fp (dO b);rw[<-hnv]at HNM HIX;obtain⟨kd,Le⟩:=Fp (if b.tag=0 then 6 else 5)
 rw[<-Le]at hv;have HV:=Fh hv;have Ud:kd=6/\((b.tag:Int)==0)=true\/kd=5/\((b.tag:Int)==0)=false:=by
  by_cases h0:b.tag=0
  ·rw[if_pos h0]at Le;exact .inl ⟨Le,by rw[h0];rfl⟩
  ·rw[if_neg h0]at Le;exact .inr ⟨Le,by rw[Fo];omega⟩
 unfold G0 at FJ HR HNM⊢;clear h hb hu hv Tk Gp FN QS hnv Le;rcases Ud with⟨rfl,ht⟩|⟨rfl,ht⟩
 ·go_in;go_upto_region 1 with fail;rw[<-FJ];clear FJ;go_wp2_with fail;refine HR.o.mono ?_;rintro e w2⟨rfl,FF⟩;have FK:Hid (MG O w μ w2):=Fh (FA.o.below FF);have Gc:Whole w2 w.heap.size 165 (G0 b):=(FF.block _ GH.o.lt).trans GH.o;have KO:=Fh Gc;clear FF x0 x1 x2 x3 x4 x5 x6 x7 x8 x9 IQ I2;obtain⟨x0,x1,x2,x3,x4,x5,x6,x7,x8,x9,IQ,I2⟩:=aZ Gc;clear Gc;go_wp2_with fail;refine(HNM.o _).mono ?_;rintro e w3⟨rfl,Gf⟩;have FT:Hid (MG O w μ w3):=Fh (FK.o.below Gf);have HX3:Hid (w3.cell? ⟨w.heap.size,0,none⟩=some (.int .i64 (b.tag:Int))):=Fh ((Gf.cell (ap x0)).trans x0);clear Gf x0 x1 x2 x3 x4 x5 x6 x7 x8 x9 IQ I2;go_wp2_with fail;clear HR HNM;have QO:Hid (∃m,eC a 6 b 0 (12-0) m=some μ'/\MG O w m w3):=Fh ⟨μ,HV.o,FT.o⟩
  go_loopw [6,8,9,10,19] (λs6 _ _ _ YX wr=>∃k:Nat,k<=12/\s6= .int .i64 0/\YX= .int .i64 k/\Hid (wr.cell? ⟨w.heap.size,0,none⟩=some (.int .i64 (b.tag:Int)))/\Hid (∃m,eC a 6 b k (12-k) m=some μ'/\MG O w m wr)) (λ_ _ _ _ YX _=>match YX with| .int _ m=>12-m.toNat|_=>0)
  case atStart=>exact⟨0,by omega,rfl,rfl,HX3,QO⟩
  case round=>
   obtain⟨k,hk,rfl,rfl,HX,HS⟩:=hrel;obtain⟨m,hf,hg⟩:=HS.o;by_cases FR:k<12
   ·have QE:=HIX.o k FR;obtain⟨n,hn⟩:=Fp ((aT b).getD k 0);rw[<-hn]at QE;have y0:=HX.o;have HM:=Fh hg;have Jv:=Fh (λW (hB:Below wr.heap.size wr W)=>dx b.tag k W (hg.below hB).has.env FR);have Ho:=dx b.tag k wr hg.has.env FR;rw[show 12-k=(12-(k+1))+1 by omega,eC,<-hn]at hf;obtain⟨m2,e1,hf⟩:=Fi hf;have hle:=oM b.tag k;by_cases hz:(FO b.tag k).2=0
    ·rw[if_pos hz]at e1;have e1:=Fk e1;subst e1;rw[jr hz]at Ho;have HP:=Fh Ho;have HF:=Fh hf;clear hf hz hn Jv hg Ho HS;go_wp2_with fail;refine HP.o.mono ?_;rintro e w5⟨rfl,Io⟩;obtain⟨w6,JR⟩:=Fp (w5.alloc (.cells #[.int .i64 0,.int .i64 0] 308));have I3:Below w5.heap.size w5 w6:=by rw[JR];exact(Below.refl _ _).alloc (Fm _) _
     have Ou:Whole w6 w5.heap.size 308 #[.int .i64 0,.int .i64 0]:=by rw[JR];exact Whole.new w5 _ _
     have Pv:Hid (MG O w m w6):=Fh ((HM.o.below Io).below I3);have Wi:Hid (w6.cell? ⟨w.heap.size,0,none⟩=some (.int .i64 (b.tag:Int))):=Fh ((I3.cell (ap ((Io.cell (ap y0)).trans y0))).trans ((Io.cell (ap y0)).trans y0));have n0:=Pv.o.has.env.hn 0 (by omega);have n1:=Pv.o.has.env.hn 1 (by omega);have x0:w6.cell? ⟨w5.heap.size,0,none⟩=some (.int .i64 0):=Ou.cell 0;have x1:w6.cell? ⟨w5.heap.size,1,none⟩=some (.int .i64 0):=Ou.cell 1;clear Io I3 Ou y0;go_upto_region 10 with fail;rw[<-JR];clear JR;go_wp2;go_roundw
     case rel=>exact⟨k+1,by omega,rfl,by go_num,Wi,Fh ⟨m,HF.o,Pv.o⟩⟩
     case measure=>simp;omega
    ·rw[if_neg hz]at e1;obtain⟨p1,LS⟩:=Fp ((FO b.tag k).1);obtain⟨p2,Jn⟩:=Fp ((FO b.tag k).2);rw[<-LS,<-Jn]at Ho e1 hle;rw[<-Jn]at hz;have Hz:=λW (hg:MG O w m W)=>fo hg.has (a+p1) p2 6 n m2 e1;simp only [show((a+p1:Nat):Int)=(a:Int)+(p1:Int)by omega]at Hz;have LG:=Fh Hz;have HP:=Fh Ho;have HF:=Fh hf;have G7:((p2:Int)==0)=false:=by rw[Fo];omega
     clear hf hz hn Jv hg Ho HS e1 LS Jn Hz;go_wp2_with fail;refine HP.o.mono ?_;rintro e w5⟨rfl,Io⟩;obtain⟨w6,JR⟩:=Fp (w5.alloc (.cells #[.int .i64 (p1:Int),.int .i64 (p2:Int)] 308));have I3:Below w5.heap.size w5 w6:=by rw[JR];exact(Below.refl _ _).alloc (Fm _) _
     have Ou:Whole w6 w5.heap.size 308 #[.int .i64 (p1:Int),.int .i64 (p2:Int)]:=by rw[JR];exact Whole.new w5 _ _
     have Pv:Hid (MG O w m w6):=Fh ((HM.o.below Io).below I3);have Wi:Hid (w6.cell? ⟨w.heap.size,0,none⟩=some (.int .i64 (b.tag:Int))):=Fh ((I3.cell (ap ((Io.cell (ap y0)).trans y0))).trans ((Io.cell (ap y0)).trans y0));have n0:=Pv.o.has.env.hn 0 (by omega);have n1:=Pv.o.has.env.hn 1 (by omega);have x0:w6.cell? ⟨w5.heap.size,0,none⟩=some (.int .i64 (p1:Int)):=Ou.cell 0;have x1:w6.cell? ⟨w5.heap.size,1,none⟩=some (.int .i64 (p2:Int)):=Ou.cell 1;clear Io I3 Ou y0;go_upto_region 10 with fail;rw[<-JR];clear JR;go_wp2_with fail;refine(LG.o _ Pv.o).mono ?_;rintro e w7⟨rfl,J1⟩;have HM7:Hid (MG O w m2 w7):=Fh (Pv.o.trans J1);have HX7:Hid (w7.cell? ⟨w.heap.size,0,none⟩=some (.int .i64 (b.tag:Int))):=Fh (J1.kept.cell Wi.o KR.o);clear J1;go_wp2;go_roundw
     case rel=>exact⟨k+1,by omega,rfl,by go_num,HX7,Fh ⟨m2,HF.o,HM7.o⟩⟩
     case measure=>simp;omega
   ·have KZ:k=12:=by omega
    subst KZ;rw[Nat.sub_self,eC]at hf;have hf:=Fk hf;subst hf;have HM:=Fh hg;clear hg HS;go_wp2;go_ret;exact⟨rfl,HM.o⟩
 ·go_in;go_upto_region 1 with fail;rw[<-FJ];clear FJ;go_wp2_with fail;refine HR.o.mono ?_;rintro e w2⟨rfl,FF⟩;have FK:Hid (MG O w μ w2):=Fh (FA.o.below FF);have Gc:Whole w2 w.heap.size 165 (G0 b):=(FF.block _ GH.o.lt).trans GH.o;have KO:=Fh Gc;clear FF x0 x1 x2 x3 x4 x5 x6 x7 x8 x9 IQ I2;obtain⟨x0,x1,x2,x3,x4,x5,x6,x7,x8,x9,IQ,I2⟩:=aZ Gc;clear Gc;go_wp2_with fail;refine(HNM.o _).mono ?_;rintro e w3⟨rfl,Gf⟩;have FT:Hid (MG O w μ w3):=Fh (FK.o.below Gf);have HX3:Hid (w3.cell? ⟨w.heap.size,0,none⟩=some (.int .i64 (b.tag:Int))):=Fh ((Gf.cell (ap x0)).trans x0);clear Gf x0 x1 x2 x3 x4 x5 x6 x7 x8 x9 IQ I2;go_wp2_with fail;clear HR HNM;have QO:Hid (∃m,eC a 5 b 0 (12-0) m=some μ'/\MG O w m w3):=Fh ⟨μ,HV.o,FT.o⟩
  go_loopw [6,8,9,10,19] (λs6 _ _ _ YX wr=>∃k:Nat,k<=12/\s6= .int .i64 0/\YX= .int .i64 k/\Hid (wr.cell? ⟨w.heap.size,0,none⟩=some (.int .i64 (b.tag:Int)))/\Hid (∃m,eC a 5 b k (12-k) m=some μ'/\MG O w m wr)) (λ_ _ _ _ YX _=>match YX with| .int _ m=>12-m.toNat|_=>0)
  case atStart=>exact⟨0,by omega,rfl,rfl,HX3,QO⟩
  case round=>
   obtain⟨k,hk,rfl,rfl,HX,HS⟩:=hrel;obtain⟨m,hf,hg⟩:=HS.o;by_cases FR:k<12
   ·have QE:=HIX.o k FR;obtain⟨n,hn⟩:=Fp ((aT b).getD k 0);rw[<-hn]at QE;have y0:=HX.o;have HM:=Fh hg;have Jv:=Fh (λW (hB:Below wr.heap.size wr W)=>dx b.tag k W (hg.below hB).has.env FR);have Ho:=dx b.tag k wr hg.has.env FR;rw[show 12-k=(12-(k+1))+1 by omega,eC,<-hn]at hf;obtain⟨m2,e1,hf⟩:=Fi hf;have hle:=oM b.tag k;by_cases hz:(FO b.tag k).2=0
    ·rw[if_pos hz]at e1;have e1:=Fk e1;subst e1;rw[jr hz]at Ho;have HP:=Fh Ho;have HF:=Fh hf;clear hf hz hn Jv hg Ho HS;go_wp2_with fail;refine HP.o.mono ?_;rintro e w5⟨rfl,Io⟩;obtain⟨w6,JR⟩:=Fp (w5.alloc (.cells #[.int .i64 0,.int .i64 0] 308));have I3:Below w5.heap.size w5 w6:=by rw[JR];exact(Below.refl _ _).alloc (Fm _) _
     have Ou:Whole w6 w5.heap.size 308 #[.int .i64 0,.int .i64 0]:=by rw[JR];exact Whole.new w5 _ _
     have Pv:Hid (MG O w m w6):=Fh ((HM.o.below Io).below I3);have Wi:Hid (w6.cell? ⟨w.heap.size,0,none⟩=some (.int .i64 (b.tag:Int))):=Fh ((I3.cell (ap ((Io.cell (ap y0)).trans y0))).trans ((Io.cell (ap y0)).trans y0));have n0:=Pv.o.has.env.hn 0 (by omega);have n1:=Pv.o.has.env.hn 1 (by omega);have x0:w6.cell? ⟨w5.heap.size,0,none⟩=some (.int .i64 0):=Ou.cell 0;have x1:w6.cell? ⟨w5.heap.size,1,none⟩=some (.int .i64 0):=Ou.cell 1;clear Io I3 Ou y0;go_upto_region 10 with fail;rw[<-JR];clear JR;go_wp2;go_roundw
     case rel=>exact⟨k+1,by omega,rfl,by go_num,Wi,Fh ⟨m,HF.o,Pv.o⟩⟩
     case measure=>simp;omega
    ·rw[if_neg hz]at e1;obtain⟨p1,LS⟩:=Fp ((FO b.tag k).1);obtain⟨p2,Jn⟩:=Fp ((FO b.tag k).2);rw[<-LS,<-Jn]at Ho e1 hle;rw[<-Jn]at hz;have Hz:=λW (hg:MG O w m W)=>fo hg.has (a+p1) p2 5 n m2 e1;simp only [show((a+p1:Nat):Int)=(a:Int)+(p1:Int)by omega]at Hz;have LG:=Fh Hz;have HP:=Fh Ho;have HF:=Fh hf;have G7:((p2:Int)==0)=false:=by rw[Fo];omega
     clear hf hz hn Jv hg Ho HS e1 LS Jn Hz;go_wp2_with fail;refine HP.o.mono ?_;rintro e w5⟨rfl,Io⟩;obtain⟨w6,JR⟩:=Fp (w5.alloc (.cells #[.int .i64 (p1:Int),.int .i64 (p2:Int)] 308));have I3:Below w5.heap.size w5 w6:=by rw[JR];exact(Below.refl _ _).alloc (Fm _) _
     have Ou:Whole w6 w5.heap.size 308 #[.int .i64 (p1:Int),.int .i64 (p2:Int)]:=by rw[JR];exact Whole.new w5 _ _
     have Pv:Hid (MG O w m w6):=Fh ((HM.o.below Io).below I3);have Wi:Hid (w6.cell? ⟨w.heap.size,0,none⟩=some (.int .i64 (b.tag:Int))):=Fh ((I3.cell (ap ((Io.cell (ap y0)).trans y0))).trans ((Io.cell (ap y0)).trans y0));have n0:=Pv.o.has.env.hn 0 (by omega);have n1:=Pv.o.has.env.hn 1 (by omega);have x0:w6.cell? ⟨w5.heap.size,0,none⟩=some (.int .i64 (p1:Int)):=Ou.cell 0;have x1:w6.cell? ⟨w5.heap.size,1,none⟩=some (.int .i64 (p2:Int)):=Ou.cell 1;clear Io I3 Ou y0;go_upto_region 10 with fail;rw[<-JR];clear JR;go_wp2_with fail;refine(LG.o _ Pv.o).mono ?_;rintro e w7⟨rfl,J1⟩;have HM7:Hid (MG O w m2 w7):=Fh (Pv.o.trans J1);have HX7:Hid (w7.cell? ⟨w.heap.size,0,none⟩=some (.int .i64 (b.tag:Int))):=Fh (J1.kept.cell Wi.o KR.o);clear J1;go_wp2;go_roundw
     case rel=>exact⟨k+1,by omega,rfl,by go_num,HX7,Fh ⟨m2,HF.o,HM7.o⟩⟩
     case measure=>simp;omega
   ·have KZ:k=12:=by omega
    subst KZ;rw[Nat.sub_self,eC]at hf;have hf:=Fk hf;subst hf;have HM:=Fh hg;clear hg HS;go_wp2;go_ret;exact⟨rfl,HM.o⟩
end
section
variable{O:av}{μ:Mm}{w:World}
theorem ao.XP:∀(l:List UInt8) {μ:Mm} {w:World} (h:ao O μ w) (a:Nat),a+l.length<=μ.size->ao O {μ with b:=μ.b.lay a l} (w.setCells O.gb a (l.map λx=>Value.int .u8 (x.toNat:Int)))/\aa (au O) w (w.setCells O.gb a (l.map λx=>Value.int .u8 (x.toNat:Int)))
 | [],μ,w,h,a,_=>⟨h,aa.refl _ _⟩
 |x::l,μ,w,h,a,hr=>by
  rw[List.length_cons]at hr;have h1:=h.wrote (i:=a) (by omega) x.toNat;have hx:x.toNat<256:=x.toNat_lt;rw[Nat.mod_eq_of_lt hx]at h1;obtain⟨h2,k2⟩:=ao.XP l h1 (a+1) (by show a+1+l.length<=μ.size;omega);rw[List.map_cons,World.setCells];exact⟨h2,((aa.refl (au O) w).setCell (p:=⟨O.gb,a,none⟩) (.inl (.inr (.inl rfl))) _).trans k2⟩
def YY(w:World)(u:Value)(l:List UInt8):Prop:=∃(q:Addr) (cap:Nat),u= .slice (some q) l.length cap/\∀(i:Nat) x,l[i]? =some x->w.cell? (q.add i)=some (.int .u8 (x.toNat:Int))
theorem Dw(h:ao O μ w)(a:Nat)(l:List UInt8)(u:Value)(hu:YY w u l)(hn:1<=l.length)(hr:a+l.length<=μ.size):Calls prog 327 #[u,.slice (some ⟨O.gb,a,none⟩) l.length l.length] w λe w'=>e= .returned (.tuple #[])/\MG O w {μ with b:=μ.b.lay a l} w':=by
 obtain⟨q,cap,rfl,hc⟩:=hu;have Nz:=λty=>run_copy_cells (P:=prog) w 73 347 ty 5 O.gb a l.length l.length q l.length cap (l.map λx=>Value.int .u8 (x.toNat:Int)) underlying73 (by kernel_rfl) (by rw[List.length_map];exact(Nat.min_self _).symm)
  (λj v hj=>by
   rw[List.getElem?_map]at hj;obtain⟨x,hx,rfl⟩:=Option.map_eq_some_iff.1 hj;exact hc j x hx)
  (λj hj=>by rw[List.length_map]at hj;rw[h.JP.cell (i:=a+j) (by omega)];rfl) (λj hj=>h.JP.frozen _) (λv hv=>by obtain⟨x,_,rfl⟩:=List.mem_map.1 hv;rfl)
 have HZ:=Fh (ao.XP l h a hr);clear h hc hn hr;go_in;go_wp2;go_end0;exact⟨rfl,HZ.o.1,HZ.o.2⟩
theorem um(h:ao O μ w)(a:Nat)(l:List UInt8)(u:Value)(hu:YY w u l)(hn:1<=l.length)(hr:a+l.length<=μ.size):Calls prog 235 #[.pointer (some ⟨O.ab,0,none⟩),.int .i64 (a:Int),.int .i64 (l.length:Int),.func (.func 327) #[u] #[]] w λe w'=>e= .returned (.int .i64 0)/\MG O w {μ with b:=μ.b.lay a l} w':=by
 have HP:=Fh (oe h a l.length hn hr);have HZ:=Fh (Dw h a l u hu hn hr);obtain⟨n,Kf⟩:=Fp l.length;rw[<-Kf]at HP HZ⊢;clear h hn hr hu Kf;go_in;go_wp2_with fail;refine HP.o.mono ?_;rintro e w1⟨rfl,rfl⟩;go_wp2_with fail;refine HZ.o.mono ?_;rintro e w2⟨rfl,hg⟩;have HG:=Fh hg;clear hg;go_wp2;go_ret;exact⟨rfl,HG.o⟩
theorem zA(h:ao O μ w)(a:Nat)(l:List UInt8)(u:Value)(hu:YY w u l)(hn:1<=l.length)(hr:a+l.length<=μ.size):Calls prog 266 #[.pointer (some ⟨O.ab,0,none⟩),.int .i64 (a:Int),u] w λe w'=>e= .returned (.int .i64 0)/\MG O w {μ with b:=μ.b.lay a l} w':=by
 have HW:=Fh (um h a l u hu hn hr);obtain⟨q,cap,rfl,hc⟩:=hu;obtain⟨n,Kf⟩:=Fp l.length;rw[<-Kf]at HW⊢;clear h hn hr hc Kf;go_in;go_wp2_with fail;refine HW.o.mono ?_;rintro e w1⟨rfl,hg⟩;have HG:=Fh hg;clear hg;go_wp2;go_ret;exact⟨rfl,HG.o⟩
theorem uo{a k:Nat}{l:List UInt8}{μ':Mm}(h:cV a k l μ=some μ'):1<=l.length/\μ.row a l.length k=true/\a+l.length<=μ.size/\μ'= {μ with b:=μ.b.lay a l}:=by
 unfold cV at h;by_cases hc:1<=l.length/\μ.row a l.length k=true
 ·rw[if_pos hc]at h;exact⟨hc.1,hc.2,(wu hc.2).1,(Fk h).symm⟩
 ·rw[if_neg hc]at h;cases h
theorem mR(h:ao O μ w)(a k:Nat)(l:List UInt8)(u:Value)(μ':Mm)(hu:∀W,MG O w μ W->YY W u l)(hv:cV a k l μ=some μ'):Calls prog 172 #[.pointer (some ⟨O.mb,0,none⟩),.int .i64 (a:Int),u,.int .i64 (k:Int)] w λe w'=>e= .returned (.bool true)/\MG O w μ' w':=by
 obtain⟨hn,Gh,GU,rfl⟩:=uo hv;have HR:=Fh (wv h a l.length k Gh);have HA:=Fh (λW (hg:MG O w μ W)=>zA hg.has a l u (hu W hg) hn GU);have HC:Hid (∀W,MG O w μ W->W.cell? ⟨O.mb,1,none⟩=some (.pointer (some ⟨O.ab,0,none⟩))):=Fh (λW hg=>hg.has.mc.2.1);obtain⟨q,cap,hq,_⟩:=hu w (MG.refl h);subst hq;obtain⟨n,Kf⟩:=Fp l.length;rw[<-Kf]at HR HA⊢;clear h hv Gh GU hn hu Kf;go_in;go_wp2_with fail;refine HR.o.mono ?_;rintro e w1⟨rfl,hg⟩;have FA:=Fh hg;have c1:=HC.o _ hg;clear hg;go_wp2_with fail;refine(HA.o _ FA.o).mono ?_;rintro e w2⟨rfl,Gg⟩;have FK:=Fh (FA.o.trans Gg);clear Gg;go_wp2;go_ret;exact⟨rfl,FK.o⟩
end
def One(T E:TypeId)(z:Value)(nb:Nat):Prop:=prog.underlying T=some (.slice E)/\((prog.info? E).map λi=>(i.zero,i.size,i.bytes))=some (some z,1,nb)/\z.cells.size=1/\nb<=8
theorem IN:One 125 3 (.int .i64 0) 8:=⟨underlying125,by kernel_rfl,rfl,by decide⟩
theorem jv{T E:TypeId}{z:Value}{nb:Nat}(hO:One T E z nb){w:World}{ops:Array Oper}{rest:List Oper}{o:Oper}{a:Act}{Q:Exit->Act->World->Prop}(J2:o.guard=none)(s x:Operand)
  (ho:o.op= .call {callee:= .builtin .append,args:= #[s,x],argTypes:= #[T,T]})
  (B:Nat) (v:Value) (n:Nat) (xs:List Value) (hs:a.eval s=v) (Gq:w.ownsRow B E 1 v n xs)
  (g:Nat) (u:Value) (hx:a.eval x= .slice (some ⟨g,0,none⟩) 1 1) (hg:w.cell? ⟨g,0,none⟩=some u) (h1:u.oneCell'=true) (hn:n<=1000000) (hB:B<=w.heap.size)
  (h:∀v' w',w'.ownsRow B E 1 v' (n+1) (xs++ [u])->aa (λk=>v.ownBlock=some k) w w'->wpList prog ops Q rest (a.put o.dst v') w'):wpList prog ops Q (o::rest) a w:=by
 obtain⟨ht,hi,hz,IJ⟩:=hO;obtain⟨i0,Px,G9,G8,G7⟩:=info_parts hi;refine wpList_append_own w J2 s x T ho B E i0 z 1 nb ht Px G9 G8 G7 hz (by decide) v n xs hs Gq ⟨g,0,none⟩ 1 1 [u] hx rfl (λj u' hj=> ?_) (λu' hu=> ?_) (by unfold maxLen;omega) ?_ hB λv' w' h1 h2 _=>h v' w' h1 (aa.grown h2)
 ·cases j with
  |zero=>
   simp at hj;subst hj;exact hg
  |succ j=>simp at hj
 ·simp at hu;subst hu;exact h1
 ·have:(n+1)*nb<=(n+1)*8:=Nat.mul_le_mul_left _ IJ;omega
section
variable{O:av}{μ:Mm}{w:World}
theorem MG.beside{μ0:Mm}{w1 w2:World}{S:Nat->Prop}(h0:ao O μ0 w)(h:MG O w μ w1)(hk:aa S w1 w2)(hS:∀k,S k->w.heap.size<=k):MG O w μ w2:=
 ⟨h.has.kept hk (λk hk e=>by
  have:=h0.lt hk;have:=hS _ e;omega),⟨hk.os.trans h.kept.os,hk.tape.trans h.kept.tape,hk.output.trans h.kept.output,Nat.le_trans h.kept.size hk.size,λk hl hn=>(hk.block k (Nat.lt_of_lt_of_le hl h.kept.size) (λe=>by have:=hS k e;omega)).trans (h.kept.block k hl hn)⟩⟩
end
def aO(l:List Nat):List Value:=l.map λ(x:Nat)=>Value.int .i64 (x:Int)
def bo(B:Nat)(w:World)(v:Value)(l:List Nat):Prop:=w.ownsRow B 3 1 v l.length (aO l)
def eO(B lb:Nat)(l:List Nat)(W:World):Prop:=∃v,Whole W lb 125 #[v]/\bo B W v l
theorem fM{B:Nat}{w:World}{v:Value}{l:List Nat}{x:Nat}(h:w.ownsRow B 3 1 v (l.length+1) (aO l++ [.int .i64 (x:Int)])):bo B w v (l++ [x]):=by
 unfold bo aO;rw[List.map_append,List.length_append];exact h
theorem eO.kept{B lb:Nat}{l:List Nat}{W W':World}{S:Nat->Prop}(h:eO B lb l W)(k:aa S W W')(h1:¬S lb)(h2:∀j,S j->¬(B<=j/\∃cs fz,W.heap[j]? =some (.cells cs 3 fz))):eO B lb l W':=by
 obtain⟨v,hb,ho⟩:=h;refine⟨v,k.whole hb h1,aj ho k λj hj hs=>h2 j hs ⟨(aF ho hj).1,?_⟩⟩;rcases ho.2 with⟨rfl,_⟩|⟨g,cap,Kb,rfl,MI,hh,_⟩
 ·simp[Value.ownBlock]at hj
 ·have e:g=j:=by simpa[Value.ownBlock]using hj
  subst e;exact⟨_,_,hh⟩
theorem bo.QT{B:Nat}{W:World}{v:Value}{l:List Nat}(ho:bo B W v l){g:Nat}{T:TypeId}{cs:Array Value}(hw:Whole W g T cs)(hT:T≠3):v.ownBlock≠some g:=λe=>by
 rcases ho.2 with⟨rfl,_⟩|⟨b,cap,Kb,rfl,MI,hh,_⟩
 ·simp[Value.ownBlock]at e
 ·have e:b=g:=by simpa[Value.ownBlock]using e
  subst e;unfold Whole at hw;rw[hw]at hh;injection hh with h1;injection h1 with _ h2 _;exact hT h2
def E7(B lb:Nat)(W:World)(k:Nat):Prop:=k=lb\/(B<=k/\∃cs fz,W.heap[k]? =some (.cells cs 3 fz))
theorem zB(B lb a:Nat)(l:List Nat)(w:World)(h:eO B lb l w)(hB:B<=w.heap.size)(hl:l.length<=100000):
  Calls prog 339 #[.int .i64 (a:Int),.pointer (some ⟨lb,0,none⟩)] w λe w'=>e= .returned (.tuple #[])/\eO B lb (l++ [a]) w'/\aa (E7 B lb w) w w':=by
 obtain⟨v,hb,ho⟩:=h;obtain⟨w0,Fx⟩:=Fp (w.alloc (.cells #[.int .i64 (a:Int)] 3));have k0:aa (λ_=>False) w w0:=by rw[Fx];exact(aa.refl _ w).alloc _
 have HO0:Hid (w0.ownsRow B 3 1 v l.length (aO l)):=Fh (aj ho k0 λ_ _=>id);have QU:w0.cell? ⟨w.heap.size,0,none⟩=some (.int .i64 (a:Int)):=by rw[Fx];exact(Whole.new w _ _).cell 0
 have VH:=Fh QU;have x0:w.cell? ⟨lb,0,none⟩=some v:=hb.cell 0;have QV:=Fh (k0.whole hb id);have HB:Hid (B<=w0.heap.size):=Fh (Nat.le_trans hB k0.size);have MC:=Fh (bo.QT ho hb (by decide));have YZ:=Fh k0;have HOG:=Fh (λj (hj:v.ownBlock=some j)=>aF ho hj);have HOI:Hid (∀j,v.ownBlock=some j->∃cs fz,w.heap[j]? =some (.cells cs 3 fz)):=Fh (λj hj=>by
  rcases ho.2 with⟨rfl,_⟩|⟨g,cap,Kb,rfl,MI,hh,_⟩
  ·simp[Value.ownBlock]at hj
  ·have e:g=j:=by simpa[Value.ownBlock]using hj
   subst e;exact⟨_,_,hh⟩)
 clear hb ho k0 hB QU;subst Fx;go_in;go_wp2_with (at_builtin;refine jv IN rfl _ _ rfl B v l.length (aO l) rfl HO0.o w.heap.size (.int .i64 (a:Int)) rfl VH.o rfl (by omega) HB.o ?_;intro v' w4 J6 MD;have KS:=Fh J6;have QL:=Fh MD;have z0:w4.frozen? ⟨lb,0,none⟩=false:=(MD.whole QV.o MC.o).frozen 0;have z1:w4.cell? ⟨lb,0,none⟩=some v:=(MD.whole QV.o MC.o).cell 0;obtain⟨A4,c4,JF⟩:=aw J6;obtain⟨l4,Tc⟩:=Fp (l.length+1);rw[<-Tc]at JF;subst JF;clear J6 MD);go_end0;have hn:=fM KS.o;rw[Tc]at hn;have Gk:=QL.o.whole QV.o MC.o;refine⟨rfl,⟨_,Gk.put 0 _,aj hn ((aa.refl (λk=>k=lb) w4).setCell (.inl rfl) _) λj hj e=> ?_⟩,?_⟩
 ·rw[e]at hj;exact hn.QT Gk (by decide) hj
 ·refine((YZ.o.mono λ_ _ h=>h.elim).trans (QL.o.mono λk _ hk=> ?_)).setCell (.inl (.inl rfl)) _;exact .inr ⟨(HOG.o k hk).1,HOI.o k hk⟩
section
variable{O:av}{μ:Mm}{w:World}
theorem k9(mb s a:Nat)(x:Sl)(w:World)(hs:Sz w):Calls prog 282 #[.agg (Ha mb s a x)] w λe w'=>e= .returned (.int .i64 ((ae x.Ft*ai x.Ft:Nat):Int))/\Below w.heap.size w w':=by
 obtain⟨w0,Fx⟩:=Fp (w.alloc (.cells (Ha mb s a x) 245));have FM:Below w.heap.size w w0:=by rw[Fx];exact(Below.refl _ w).alloc (Fm _) _
 have Gd:Whole w0 w.heap.size 245 (Ha mb s a x):=by rw[Fx];exact Whole.new w _ _
 have Jd:=Fh Gd;have GW:=Fh FM;have hle:=bF x.Ft;have IA:=Fh (λW (hb:Below w.heap.size w W)=>ju mb s a x W (hs.below hb));have II:=Fh (λW (hb:Below w.heap.size w W)=>fE x.Ft W (hs.below hb));clear Gd FM hs;obtain⟨sz,F8⟩:=Fp (ae x.Ft);obtain⟨n,hn⟩:=Fp (ai x.Ft);rw[<-F8]at IA hle⊢;rw[<-hn]at II hle⊢;have hm:IntKind.i64.wrap ((sz:Int)*(n:Int))=((sz*n:Nat):Int):=by
  rw[<-Int.natCast_mul];rw[IntKind.wrap_i64];have:=hle.2;rw[Nat.mul_comm]at this;omega
 clear F8 hn;unfold Ha at Fx IA⊢;go_in;go_upto_region 1 with fail;rw[<-Fx];clear Fx;obtain⟨x0,x1,x2,x3,x4,x5,x6,x7⟩:=bg Jd.o;have Gu:=xW x0 x1 x2 x3 x4 x5 x6 x7
 go_region_held3 (λw'=>Below w0.heap.size w0 w'/\w'.cell? ⟨w.heap.size,0,none⟩=some (.pointer (some ⟨mb,0,none⟩))/\w'.cell? ⟨w.heap.size,1,none⟩=some (.int .i64 (s:Int))/\w'.cell? ⟨w.heap.size,2,none⟩=some (.int .i64 (a:Int))/\w'.cell? ⟨w.heap.size,3,none⟩=some (.int .i64 (x.Ft:Int))/\w'.cell? ⟨w.heap.size,4,none⟩=some (.int .i64 (x.live:Int))/\w'.cell? ⟨w.heap.size,5,none⟩=some (.int .u32 (x.free:Int))/\w'.cell? ⟨w.heap.size,6,none⟩=some (.int .i64 (x.next:Int))/\w'.cell? ⟨w.heap.size,7,none⟩=some (.int .i64 (x.prev:Int)))
  (first|exact Gu|assumption|exact Eo (by assumption) (by assumption))
  (first
   |((go_at_call 192;with_reducible refine(IA.o _ (ah GW.o (And.left (by assumption)))).mono ?_);rintro e w2 ⟨rfl,FF⟩)
   |((go_at_call 121;with_reducible refine(II.o _ (ah GW.o (And.left (by assumption)))).mono ?_);rintro e w2 ⟨rfl,rfl⟩))
 all_goals
  have HX:Hid (Below w0.heap.size w0 _):=Fh (And.left (by assumption));clear Gu;go_wp2;go_ret;exact⟨by rw[Int.natCast_mul];rfl,ah GW.o HX.o⟩
def EaS(w:World)(W:World)(k:Nat):Prop:=k<w.heap.size\/∃cs fz,W.heap[k]? =some (.cells cs 3 fz)
theorem uq(mb s a:Nat)(x:Sl)(w:World)(hs:Sz w)(k:FuncId)(xs cp:Array Value)(ha:a<4294967296)(henter:∀(vs:Array Value) (W:World),(callFunc k vs).run prog W= .ok (.enter k vs) W)
  (I:Nat->World->Prop) (h0:∀W,Below w.heap.size w W->I 0 W) (F8:∀i W,I i W->Sz W) (hIb:∀i W W',I i W->Below W.heap.size W W'->I i W')
  (JC:∀i W,i<ai x.Ft->I i W->Calls prog k (xs.push (.int .i64 ((a+i*ae x.Ft:Nat):Int))++cp) W λe w'=>(∃v,e= .returned v)/\I (i+1) w'/\aa (EaS w W) W w'):
  Calls prog 208 #[.agg (Ha mb s a x),.func (.func k) xs cp] w λe w'=>e= .returned (.tuple #[])/\I (ai x.Ft) w':=by
 obtain⟨w0,Fx⟩:=Fp (w.alloc (.cells (Ha mb s a x) 245));have FM:Below w.heap.size w w0:=by rw[Fx];exact(Below.refl _ w).alloc (Fm _) _
 have Gd:Whole w0 w.heap.size 245 (Ha mb s a x):=by rw[Fx];exact Whole.new w _ _
 have Jd:=Fh Gd;have hle:=bF x.Ft;have II:=Fh (fE x.Ft w0 (hs.below FM));have HI0:=Fh (h0 w0 FM);have IA:=Fh F8;have LG:=Fh JC;have LH:=Fh henter;have Jv:=Fh (λi W (hi:i<ai x.Ft) (hs:Sz W)=>Bq x.Ft i W hs hi);clear Gd FM hs h0 F8 hIb JC;obtain⟨sz,F8⟩:=Fp (ae x.Ft);obtain⟨n,hn⟩:=Fp (ai x.Ft);rw[<-hn]at II hle LG Jv⊢;rw[<-F8]at LG Jv hle;clear F8 hn;unfold Ha at Fx Jd⊢;go_in;go_upto_region 1 with fail;rw[<-Fx];clear Fx;obtain⟨x0,x1,x2,x3,x4,x5,x6,x7⟩:=bg Jd.o;go_wp2_with fail;refine II.o.mono ?_;rintro e w1⟨rfl,rfl⟩;clear x0 x1 x2 x3 x4 x5 x6 x7;go_wp2_with fail
 go_loopw [4,5,6,11] (λ_ _ _ La wr=>∃i:Nat,i<=n/\La= .int .i64 (i:Int)/\Hid (I i wr)/\Hid (Whole wr w.heap.size 245 #[.pointer (some ⟨mb,0,none⟩),.int .i64 (s:Int),.int .i64 (a:Int),.int .i64 (x.Ft:Int),.int .i64 (x.live:Int),.int .u32 (x.free:Int),.int .i64 (x.next:Int),.int .i64 (x.prev:Int)])) (λ_ _ _ La _=>n-(intOf La).toNat)
 case atStart=>exact⟨0,by omega,rfl,HI0,Jd⟩
 case round=>
  obtain⟨i,hi,rfl,HI,HR⟩:=hrel;by_cases FR:i<n
  ·have d0:decide ((i:Int)<(n:Int))=true:=by simp;omega
   have HP:=Fh (Jv.o i wr FR (IA.o i wr HI.o));have Hz:=LG.o i wr FR HI.o;obtain⟨z,hz⟩:=Fp (i*sz);have Qp:z<=1024:=by
    rw[hz];exact Nat.le_trans (Nat.mul_le_mul_right _ (Nat.le_of_lt FR)) hle.2
   rw[<-hz]at HP Hz;simp only [show((a+z:Nat):Int)=(a:Int)+(z:Int)by omega]at Hz;have HS:=Fh Hz;have HE:=LH.o;obtain⟨x0,x1,x2,x3,x4,x5,x6,x7⟩:=bg HR.o;clear hz Hz;go_wp2_with fail;refine HP.o.mono ?_;rintro e w3⟨rfl,rfl⟩;go_wp2_with fail;refine HS.o.mono ?_;rintro e w4⟨⟨v,rfl⟩,hi4,MD⟩;have HI4:=Fh hi4;have Lc:=Fh (MD.whole HR.o λh=>by
    rcases h with h|⟨cs,fz,h⟩
    ·omega
    ·have:=HR.o;unfold Whole at this;rw[this]at h;injection h with h1;injection h1 with _ h2 _;exact absurd h2 (by decide))
   clear hi4 MD x0 x1 x2 x3 x4 x5 x6 x7;go_wp2;go_roundw
   case rel=>exact⟨i+1,FR,by go_num,HI4,Lc⟩
   case measure=>simp[intOf];omega
  ·have d0:decide ((i:Int)<(n:Int))=false:=by simp;omega
   have GU:i=n:=by omega
   have Nu:Hid (I n wr):=Fh (by rw[<-GU];exact HI.o);clear GU;go_wp2;go_end0;exact⟨rfl,Nu.o⟩
def gA(a sz:Nat):Nat->List Nat
 |0=> []
 |n+1=>gA a sz n++ [a+n*sz]
theorem bV(a sz:Nat):∀n,(gA a sz n).length=n
 |0=>rfl
 |n+1=>by rw[gA,List.length_append,bV];rfl
theorem jw(a sz:Nat):∀n i,i<n->(gA a sz n)[i]? =some (a+i*sz)
 |0,i,h=>by omega
 |n+1,i,h=>by
  rw[gA];by_cases e:i<n
  ·rw[List.getElem?_append_left (by rw[bV];exact e),jw a sz n i e]
  ·have:i=n:=by omega
   subst this;rw[List.getElem?_append_right (by rw[bV];exact Fm _),bV,Nat.sub_self];rfl
end
section
variable{O:av}{μ:Mm}{w:World}
theorem sX(c:Nat)(hc:c<10)(w:World):Calls prog 332 #[.int .i64 (c:Int)] w λe w'=>e= .returned (.bool true)/\w'=w:=by
 have c0:decide ((0:Int)<=(c:Int))=true:=by simp
 have c1:decide ((c:Int)<=9)=true:=by simp;omega
 go_in;go_wp2;go_ret;exact⟨rfl,rfl⟩
theorem ru(h:ao O μ w)(c s:Nat)(hc:c<10)(hs:s<μ.Fq):Calls prog 285 #[.pointer (some ⟨O.mb,0,none⟩),.int .i64 (c:Int),.int .i64 (s:Int)] w λe w'=>e= .returned (.int .i64 0)/\MG O w μ w':=by
 have Ov:=Fh (gX h);have Tl:=Fh (λW=>sX c hc W);have Sr:=Fh (λW (hg:MG O w μ W)=>sV hg.has s hs);have FE:Hid (MG O w μ w):=Fh (MG.refl h);clear h hs;go_in;go_wp2_with fail;refine Ov.o.mono ?_;rintro e w1⟨rfl,hb⟩;have FA:=Fh (FE.o.below hb);clear hb;go_wp2_with fail;refine(Tl.o _).mono ?_;rintro e w2⟨rfl,rfl⟩;go_wp2_with fail;refine(Sr.o _ FA.o).mono ?_;rintro e w3⟨rfl,hb⟩;have FT:=Fh (FA.o.below hb);clear hb;go_wp2;go_ret;exact⟨rfl,FT.o⟩
set_option maxRecDepth 20000 in
theorem ol(h:ao O μ w)(c s:Nat)(μ':Mm)(hc:c<10)(hs:s<μ.Fq)(hv:oG c s μ=some μ')
  (hw:∀(q:Bool×Nat) (W:World),MG O w μ W->cA c s μ=some q->Calls prog 286 #[.pointer (some ⟨O.mb,0,none⟩),.int .i64 (c:Int),.int .i64 (s:Int)] W λe w'=>e= .returned (.tuple #[.bool q.1,.int .i64 (q.2:Nat)])/\MG O W μ w')
  (IH:∀(q:Bool×Nat),cA c s μ=some q->q.2<4294967296):
  Calls prog 212 #[.pointer (some ⟨O.mb,0,none⟩),.int .i64 (c:Int),.int .i64 (s:Int)] w λe w'=>e= .returned (.int .i64 0)/\MG O w μ' w':=by
 unfold oG at hv;obtain⟨⟨b,p⟩,h1,hv⟩:=Fi hv;dsimp only at hv;cases b with
 |false=>rw[if_pos rfl]at hv;cases hv
 |true=>
 rw[if_neg (by simp)]at hv;obtain⟨n,h2,hv⟩:=Fi hv;obtain⟨m1,h3,hv⟩:=Fi hv;obtain⟨m2,h4,hv⟩:=Fi hv;obtain⟨m3,h5,h6⟩:=Fi hv;have hp:=IH _ h1;dsimp only at hp;have Qj:n<4294967296:=cH h2;have FE:Hid (MG O w μ w):=Fh (MG.refl h);have YW:=Fh (ru h c s hc hs);have HWI:=Fh (λW (hg:MG O w μ W)=>hw _ W hg h1);have Nd:=Fh (λW (hg:MG O w μ W)=>eG hg.has s 8 4 n (by omega) (by omega) h2);have HAF:=Fh (λW (hg:MG O w μ W)=>rm hg.has c p n m1 hc hp h3);have MF:=Fh (λW (hg:MG O w m2 W)=>fg hg.has s 8 4 0 m3 (by omega) h5);have Kg:=Fh (λW (hg:MG O w m3 W)=>fg hg.has s 12 4 0 μ' (by omega) h6);have RI:IntKind.u64.wrap (p:Int)=(p:Int):=by rw[IntKind.wrap_u64];omega
 clear h hv h1 h2 h3 h5 h6 hw IH hs;by_cases J0:0<n
 ·rw[if_pos J0]at h4;have I8:=λW (hg:MG O w m1 W)=>fg hg.has (n-1) 12 4 p m2 (by omega) h4;simp only [show((n-1:Nat):Int)=(n:Int)-1 by omega]at I8;have I4:=Fh I8;have c0:decide ((0:Int)<(n:Int))=true:=by simp;omega
  clear h4 I8;go_in;go_wp2_with fail;refine YW.o.mono ?_;rintro e w1⟨rfl,hg⟩;have FA:=Fh (FE.o.trans hg);clear hg;go_wp2_with fail;refine(HWI.o _ FA.o).mono ?_;rintro e w2⟨rfl,hg⟩;have FK:=Fh (FA.o.trans hg);clear hg;go_wp2_with fail;refine(Nd.o _ FK.o).mono ?_;rintro e w3⟨rfl,hg⟩;have FT:=Fh (FK.o.trans hg);clear hg;go_wp2_with fail;refine(HAF.o _ FT.o).mono ?_;rintro e w4⟨rfl,hg⟩;have FW:=Fh (FT.o.trans hg);clear hg;go_wp2_with fail;refine(I4.o _ FW.o).mono ?_;rintro e w5⟨rfl,hg⟩;have Gj:=Fh (FW.o.trans hg);clear hg;go_wp2_with fail;refine(MF.o _ Gj.o).mono ?_;rintro e w6⟨rfl,hg⟩;have GP:=Fh (Gj.o.trans hg);clear hg;go_wp2_with fail;refine(Kg.o _ GP.o).mono ?_;rintro e w7⟨rfl,hg⟩;have Iv:=Fh (GP.o.trans hg);clear hg;go_wp2;go_ret;exact⟨rfl,Iv.o⟩
 ·rw[if_neg J0]at h4;have h4:=Fk h4;subst h4;have c0:decide ((0:Int)<(n:Int))=false:=by simp;omega
  go_in;go_wp2_with fail;refine YW.o.mono ?_;rintro e w1⟨rfl,hg⟩;have FA:=Fh (FE.o.trans hg);clear hg;go_wp2_with fail;refine(HWI.o _ FA.o).mono ?_;rintro e w2⟨rfl,hg⟩;have FK:=Fh (FA.o.trans hg);clear hg;go_wp2_with fail;refine(Nd.o _ FK.o).mono ?_;rintro e w3⟨rfl,hg⟩;have FT:=Fh (FK.o.trans hg);clear hg;go_wp2_with fail;refine(HAF.o _ FT.o).mono ?_;rintro e w4⟨rfl,hg⟩;have FW:=Fh (FT.o.trans hg);clear hg;go_wp2_with fail;refine(MF.o _ FW.o).mono ?_;rintro e w6⟨rfl,hg⟩;have GP:=Fh (FW.o.trans hg);clear hg;go_wp2_with fail;refine(Kg.o _ GP.o).mono ?_;rintro e w7⟨rfl,hg⟩;have Iv:=Fh (GP.o.trans hg);clear hg;go_wp2;go_ret;exact⟨rfl,Iv.o⟩
set_option maxRecDepth 20000 in
theorem om(h:ao O μ w)(c s:Nat)(μ':Mm)(hc:c<10)(hs:s<μ.Fq)(hv:oF c s μ=some μ')
  (hw:∀(c:Nat) (q:Bool×Nat) (W:World),c<10->MG O w μ W->cA c s μ=some q->Calls prog 286 #[.pointer (some ⟨O.mb,0,none⟩),.int .i64 (c:Int),.int .i64 (s:Int)] W λe w'=>e= .returned (.tuple #[.bool q.1,.int .i64 (q.2:Nat)])/\MG O W μ w')
  (IH:∀(q:Bool×Nat),cA c s μ=some q->q.2<4294967296):
  Calls prog 194 #[.pointer (some ⟨O.mb,0,none⟩),.int .i64 (c:Int),.int .i64 (s:Int)] w λe w'=>e= .returned (.int .i64 0)/\MG O w μ' w':=by
 unfold oF at hv;obtain⟨_,h0,hv⟩:=Fi hv;obtain⟨⟨b,p⟩,h1,hv⟩:=Fi hv;obtain⟨f,h2,hv⟩:=Fi hv;obtain⟨n,h3,hv⟩:=Fi hv;dsimp only at h3 hv;have hp:=IH _ h1;dsimp only at hp;have Uc:f<4294967296:=aU h2 (by omega);have Qj:n<4294967296:=by
  by_cases JH:0<p
  ·rw[if_pos JH]at h3;exact cH h3
  ·rw[if_neg JH]at h3;have:=Fk h3;omega
 have FE:Hid (MG O w μ w):=Fh (MG.refl h);have YW:=Fh (ru h c s hc hs);have HW:=Fh hw;have HWI:=Fh (λW (hg:MG O w μ W)=>hw c _ W hc hg h1);have Lf:=Fh (λW (hg:MG O w μ W)=>j5 hg.has c f hc h2);have HLK:=Fh (λW (hg:MG O w μ W)=>uj hg.has c s p n μ' hc hp Qj hv);have HN0:Hid (iq s μ 0 (10-0)=some ()):=Fh h0;have H3:=Fh h3;clear h hv h0 h1 h2 h3 hw IH hs;go_in;go_wp2_with fail;refine YW.o.mono ?_;rintro e w1⟨rfl,hg⟩;have FA:=Fh (FE.o.trans hg);clear hg;go_wp2_with fail
 go_loopw [6,8,9,10,21] (λs6 _ _ _ s21 wr=>∃k:Nat,k<=10/\s6= .int .i64 0/\s21= .int .i64 (k:Int)/\Hid (iq s μ k (10-k)=some ())/\Hid (MG O w μ wr)) (λ_ _ _ _ s21 _=>match s21 with| .int _ m=>10-m.toNat|_=>0)
 case atStart=>exact⟨0,by omega,rfl,rfl,HN0,FA⟩
 case round=>
  obtain⟨k,hk,rfl,rfl,HN,HG⟩:=hrel;by_cases FR:k<10
  ·have hn:=HN.o;rw[show 10-k=(10-(k+1))+1 by omega,iq]at hn;obtain⟨⟨b2,p2⟩,e1,hn⟩:=Fi hn;dsimp only at hn;cases b2 with
   |true=>rw[if_pos rfl]at hn;cases hn
   |false=>
   rw[if_neg (by simp)]at hn;have HWK:=Fh (HW.o k _ wr FR HG.o e1);have QQ:=Fh hn;clear e1 hn;go_wp2_with fail;refine HWK.o.mono ?_;rintro e w5⟨rfl,hg⟩;have Gj:=Fh (HG.o.trans hg);clear hg;go_wp2;go_roundw
   case rel=>exact⟨k+1,by omega,rfl,by go_num,QQ,Gj⟩
   case measure=>simp;omega
  ·have Ta:k=10:=by omega
   subst Ta;rw[show((10:Nat):Int)=10 from rfl];go_wp2_with fail;refine(HWI.o _ HG.o).mono ?_;rintro e w5⟨rfl,hg⟩;have Gj:=Fh (HG.o.trans hg);clear hg;by_cases JH:0<p
   ·have h3:=H3.o;rw[if_pos JH]at h3;have Ml:=λW (hg:MG O w μ W)=>eG hg.has (p-1) 8 4 n (by omega) (by omega) h3;simp only [show((p-1:Nat):Int)=(p:Int)-1 by omega]at Ml;have Nd:=Fh Ml;have c0:decide ((0:Int)<(p:Int))=true:=by simp;omega
    clear h3 Ml;go_wp2_with fail;refine(Lf.o _ Gj.o).mono ?_;rintro e w6⟨rfl,hg⟩;have GP:=Fh (Gj.o.trans hg);clear hg;go_wp2_with fail;refine(Nd.o _ GP.o).mono ?_;rintro e w7⟨rfl,hg⟩;have Iv:=Fh (GP.o.trans hg);clear hg;go_wp2_with fail;refine(HLK.o _ Iv.o).mono ?_;rintro e w8⟨rfl,hg⟩;have Ow:=Fh (Iv.o.trans hg);clear hg;go_wp2;go_ret;exact⟨rfl,Ow.o⟩
   ·have h3:=H3.o;rw[if_neg JH]at h3;have h3:=Fk h3;subst h3;have c0:decide ((0:Int)<(p:Int))=false:=by simp;omega
    go_wp2_with fail;refine(Lf.o _ Gj.o).mono ?_;rintro e w6⟨rfl,hg⟩;have GP:=Fh (Gj.o.trans hg);clear hg;go_wp2_with fail;refine(HLK.o _ GP.o).mono ?_;rintro e w7⟨rfl,hg⟩;have Iv:=Fh (GP.o.trans hg);clear hg;go_wp2;go_ret;exact⟨rfl,Iv.o⟩
end
end Go.Proofs.YtifkphcaelafjaaGreatDoor
namespace Go.Rft
open Go Go.RowKit
variable{F:Fence}{n:Nat}{P:Program}
def EB{α:Type}(F:Fence)(n:Nat)(P:Program)(g:Nat)(lb:Array Value)(Lg:α->Array Value)(T:World->World->Prop)(R:List α->World->Prop)(Nx:List α->α->Prop)(S Sp:List α->Prop):Prop:=
 ∀(l:Nat) (J Jx:List α->World->Prop) (W:World),(∀s A,J s A->R s A)->(∀s A C,J s A->T A C->J s C)->(∀s A C,Jx s A->T A C->Jx s C)->
  (∀pre x W1,J pre W1->Nx pre x->YieldAt F (n-1) P l (Lg x) W1 λe W2=>(e= .returned (.bool true)/\J (pre++ [x]) W2)\/(e= .returned (.bool false)/\Jx (pre++ [x]) W2))->
  J [] W->CallsIn F n P g (#[.func (.yield l) #[] #[]]++lb) W λe W2=>(∃v,e= .returned v)/\((∃xs,S xs/\J xs W2)\/(∃pre,Sp pre/\Jx pre W2))
def Bx{α:Type}(B:Nat)(I:List α->World->Prop):Prop:=∀s A l o o',I s A->B<=l->A.heap[l]? =some o->o.isCells=false->I s (A.putObj l o')
theorem gZ{α:Type}{g:Operand}{ps:Array Tmp}{assign body:Code}{Q:Exit->Act->World->Prop}{a:Act}{w:World}
  (hro:F.round=none) (h1:1<=n) {gf:Nat} {lb:Array Value} (hg:a.eval g= .func (.func gf) #[] lb) (hFg:F.fn gf) (eg:∀args w,(callFunc gf args).run P w= .ok (.enter gf args) w)
  {Lg:α->Array Value} {T:World->World->Prop} {R:List α->World->Prop} {Nx:List α->α->Prop} {S Sp:List α->Prop} (Y0:EB F (n-1) P gf lb Lg T R Nx S Sp)
  (hT:∀A C k o,T A C->w.heap.size<=k->A.heap[k]? =some o->o.isCells=false->C.heap[k]? =some o) (KC:∀x,(Lg x).size=ps.size)
  (I:List α->World->Prop) (Ix:Code->List α->World->Prop) (hR:∀s A,I s A->R s A) (hI:∀s A C,I s A->T A C->I s C) (hIx:∀c s A C,Ix c s A->T A C->Ix c s C) (Wj:Bx w.heap.size I) (MJ:∀c,Bx w.heap.size (Ix c))
  (h0:∀o o',o.isCells=false->o'.isCells=false->I [] ((w.alloc o).alloc o')) (a₁:α->Act)
  (Ox:∀(l:Nat) (x:α) (W:World) (K:Act->World->Prop),K (a₁ x) W->
   assign.wpIn (F.inRound l) (n-1-1) P (Exit.then K (λ_ _ _=>False)) {tmps:=(ps.zip (Lg x)).foldl (λt (p,v)=>t.setIfInBounds p v) a.tmps,defers:= []} W)
  (Py:∀(l:Nat) (pre:List α) (x:α) (W:World),I pre W->Nx pre x->body.wpIn (F.inRound l) (n-1-1) P (ownPostG w.heap.size (λ_ _=>True) I Ix (pre++ [x]) W) (a₁ x) W)
  (Pz:∀(D:Nat) (xs:List α) (W:World),w.heap.size<=D->S xs->I xs W->W.heap[D]? =some (.deferred (some []))->Q .normal {a with defers:= {target:= .collected D,args:= #[]}::a.defers} W)
  (PA:∀(D:Nat) (c:Code) (pre:List α) (W:World),w.heap.size<=D->Sp pre->Ix c pre W->W.heap[D]? =some (.deferred (some []))->c.wpIn F n P Q {a with defers:= {target:= .collected D,args:= #[]}::a.defers} W):
  (Code.rangeFunc g ps assign body).wpIn F n P Q a w:=by
 refine wpIn_rangeFunc ?_;intro fn hfn;rw[hro];obtain⟨B,hB⟩:=Fp w.heap.size;obtain⟨rc,KT⟩:∃rc:LoopState->Option Code->Loop,rc=λst pe=> {state:=st,pending:=pe,fn,tmps:=a.tmps,params:=ps,assign,body,defers:=w.heap.size}:=⟨_,rfl⟩;obtain⟨W1,KU⟩:=Fp ((w.alloc (.deferred (some []))).alloc (.loop (rc .ready none)));have r1:W1.heap[B+1]? =some (.loop (rc .ready none)):=by
  have h:=World.alloc_heap_new (w.alloc (.deferred (some []))) (.loop (rc .ready none));rw[World.size_alloc]at h;rw[KU,hB];exact h
 have d1:W1.heap[B]? =some (.deferred (some [])):=by
  rw[KU,hB];exact(Below.heap_alloc _ _ _ (by simp)).trans (World.alloc_heap_new w _)
 have i1:I [] W1:=by rw[KU];exact h0 _ _ rfl rfl
 refine⟨w.heap.size+1,[{target:= .collected w.heap.size,args:= #[]}],W1, {target:= .fn (.func gf) lb,args:= #[.func (.yield (w.heap.size+1)) #[] #[]]},W1,gf, #[.func (.yield (w.heap.size+1)) #[] #[]]++lb,W1,?enter,?res,?leads,?inv,λ_=>h1,?rest⟩
 case enter=>rw[KU,KT];exact run_enterLoop_outer _ _ _ _ _
 case res=>
  simp only [resolve,hg];simp[go_sem]
 case leads=>
  intro f2 IT;simp[Target.leads]at IT;subst IT;exact hFg
 case inv=>simp[invoke,go_sem,eg]
 case rest=>
  rw[<-hB]at hT Wj MJ Pz PA Py⊢;refine(Y0 (B+1) (λs A=>I s A/\A.heap[B+1]? =some (.loop (rc .ready none))/\A.heap[B]? =some (.deferred (some []))) (λs A=>∃c,Ix c s A/\A.heap[B+1]? =some (.loop (rc .done (some c)))/\A.heap[B]? =some (.deferred (some [])))
   W1 (λs A h=>hR s A h.1) (λs A C h t=>⟨hI s A C h.1 t,hT A C _ _ t (by omega) h.2.1 rfl,hT A C _ _ t (Fm _) h.2.2 rfl⟩) (λs A C h t=>by
    obtain⟨c,u1,u2,u3⟩:=h;exact⟨c,hIx c s A C u1 t,hT A C _ _ t (by omega) u2 rfl,hT A C _ _ t (Fm _) u3 rfl⟩) ?round ⟨i1,r1,d1⟩).mono ?after
  case round=>
   rintro pre x W⟨hi,hl,hd⟩ LU;have FR:B+1<W.heap.size:=(Array.getElem?_eq_some_iff.1 hl).1;have hy:=run_yield (P:=P) (args:=Lg x) hl (by rw[KT];exact KC x);rw[KT]at hy;refine⟨fn,_,assign,body,hy,roundIn_of_wpIn hfn (Ox _ x W _ ⟨_,run_beginRound hl (by rw[KT]),?_⟩)⟩;obtain⟨Wb,VI⟩:∃Wb,Wb=W.putObj (B+1) (.loop {rc .ready none with state:= .busy}):=⟨_,rfl⟩;have lb2:Wb.heap[B+1]? =some (.loop {rc .ready none with state:= .busy}):=by rw[VI];exact World.putObj_heap_same FR
   have db2:Wb.heap[B]? =some (.deferred (some [])):=by rw[VI];exact(World.putObj_heap_other (by omega)).trans hd
   have ib2:I pre Wb:=by rw[VI];exact Wj _ _ _ _ _ hi (by omega) hl rfl
   rw[<-VI];refine wpIn_mono (Py _ pre x _ ib2 LU) ?_;have fin:∀(j:Option Code) (W3:World),KeepsFrom B Wb W3->W3.heap[B+1]? =some (.loop {rc .ready none with state:= .busy})/\(Instr.endRound (B+1) j).run P W3= .ok (.bool j.isNone) (W3.putObj (B+1) (.loop (rc (if j.isNone then .ready else .done) j)))/\
     (W3.putObj (B+1) (.loop (rc (if j.isNone then .ready else .done) j))).heap[B+1]? =some (.loop (rc (if j.isNone then .ready else .done) j))/\(W3.putObj (B+1) (.loop (rc (if j.isNone then .ready else .done) j))).heap[B]? =some (.deferred (some [])):=λj W3 k3=>by
    have l3:=k3.same _ _ (by omega) lb2 rfl;have he:=run_endRound (P:=P) j l3;rw[KT]at he⊢;rw[KT]at l3;exact⟨l3,he,World.putObj_heap_same (Array.getElem?_eq_some_iff.1 l3).1,(World.putObj_heap_other (by omega)).trans (k3.same _ _ (Fm _) db2 rfl)⟩
   rintro e a3 W3 hp;cases e with
   |normal=>
    obtain⟨k3,_,i3⟩:=hp;obtain⟨l3,he,l4,d4⟩:=fin none W3 k3;exact⟨_,_,he,.inl ⟨rfl,Wj _ _ _ _ _ i3 (by omega) l3 rfl,l4,d4⟩⟩
   |ret=>
    obtain⟨k3,i3⟩:=hp;obtain⟨l3,he,l4,d4⟩:=fin (some .ret) W3 k3;exact⟨_,_,he,.inr ⟨rfl,.ret,MJ _ _ _ _ _ _ i3 (by omega) l3 rfl,l4,d4⟩⟩
   |exit id=>
    obtain⟨k3,i3⟩:=hp;obtain⟨l3,he,l4,d4⟩:=fin (some (.exit id)) W3 k3;exact⟨_,_,he,.inr ⟨rfl,.exit id,MJ _ _ _ _ _ _ i3 (by omega) l3 rfl,l4,d4⟩⟩
   |goto t=>
    obtain⟨k3,i3⟩:=hp;obtain⟨l3,he,l4,d4⟩:=fin (some (.goto t)) W3 k3;exact⟨_,_,he,.inr ⟨rfl,.goto t,MJ _ _ _ _ _ _ i3 (by omega) l3 rfl,l4,d4⟩⟩
   |panic ch=>exact hp.elim
   |outgrown=>exact hp.elim
  case after=>
   rintro e W2⟨⟨v,rfl⟩,(⟨xs,hS,hi,hl,hd⟩|⟨pre,hSp,c,hi,hl,hd⟩)⟩
   ·have he:=run_endLoop (P:=P) hl (by rw[KT];simp);rw[KT]at he;exact⟨none,_,he,Pz _ xs _ (Fm _) hS (Wj _ _ _ _ _ hi (by omega) hl rfl) ((World.putObj_heap_other (by omega)).trans hd)⟩
   ·have he:=run_endLoop (P:=P) hl (by rw[KT];simp);rw[KT]at he;exact⟨some c,_,he,PA _ c pre _ (Fm _) hSp (MJ c _ _ _ _ _ hi (by omega) hl rfl) ((World.putObj_heap_other (by omega)).trans hd)⟩
end Go.Rft
