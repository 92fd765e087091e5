/-
  Lemmas on the way to the row. No condition beyond their own.
-/
import Derived.ChangeKeysEq
import Derived.Laws.ResultCell
import Derived.Test.YtifkphcaelafjaaGreatDoorQ00
set_option maxHeartbeats 25600000
set_option maxRecDepth 100000
set_option linter.unusedVariables false
set_option linter.unusedSimpArgs false
namespace Go.Proofs.YtifkphcaelafjaaGreatDoor
open Tryz
open Go.RowKit Go.Colm Go.FC
theorem qP{s n:Nat}(h:¬(7<=s/\s<=64/\n%2=0/\s*32<=n/\n<=8192)):LP s n=false:=by
 cases e:LP s n
 ·rfl
 ·exact absurd (bB.1 e) h
theorem dU(s n:Nat)(w:World)(hs:Sz w)(h1:s<8589934592)(h2:n<8589934592):Calls prog 64 #[.agg #[.int .i64 (s:Int),.int .i64 (n:Int)]] w λe w'=>e= .returned (.bool (LP s n))/\Below w.heap.size w w':=by
 obtain⟨w0,Fx⟩:=Fp (w.alloc (.cells #[.int .i64 (s:Int),.int .i64 (n:Int)] 31));have FM:Below w.heap.size w w0:=by rw[Fx];exact(Below.refl _ w).alloc (Fm _) _
 have Gd:Whole w0 w.heap.size 31 #[.int .i64 (s:Int),.int .i64 (n:Int)]:=by rw[Fx];exact Whole.new w _ _
 have x0:w0.cell? ⟨w.heap.size,0,none⟩=some (.int .i64 (s:Int)):=Gd.cell 0;have x1:w0.cell? ⟨w.heap.size,1,none⟩=some (.int .i64 (n:Int)):=Gd.cell 1;have Hb:=λm=>fE 1 (w0.drewN m) ((hs.below FM).below (dz w0 m));rw[show ai 1=32 from rfl]at Hb;have II:=Fh Hb;have GW:=Fh FM;clear Hb FM Gd hs;go_in;go_upto_region 1 with fail;rw[<-Fx];clear Fx;by_cases c1:7<=s
 ·by_cases c2:s<=64
  ·have z:¬((s:Int)=0):=by omega
   go_wp2_with fail;by_cases c3:n%2=0
   ·have c3':((n:Int)%2==0)=true:=by rw[beq_iff_eq];omega
    by_cases c4:s*32<=n
    ·have c4':decide ((s:Int)*32<=(n:Int))=true:=by simp;omega
     by_cases c5:n<=8192
     ·have c5':decide ((n:Int)<=8192)=true:=by simp;omega
      go_quiet ((go_at_call 121;exact Calls.quiet_of_same (II.o _)));go_wp2;go_ret;exact⟨aq (bB.2 ⟨c1,c2,c3,c4,c5⟩).symm,dv GW.o _⟩
     ·have c5':decide ((n:Int)<=8192)=false:=by simp;omega
      go_quiet ((go_at_call 121;exact Calls.quiet_of_same (II.o _)));go_wp2;go_ret;exact⟨aq (qP (by omega)).symm,dv GW.o _⟩
    ·have c4':decide ((s:Int)*32<=(n:Int))=false:=by simp;omega
     go_quiet ((go_at_call 121;exact Calls.quiet_of_same (II.o _)));go_wp2;go_ret;exact⟨aq (qP (by omega)).symm,dv GW.o _⟩
   ·have c3':((n:Int)%2==0)=false:=by rw[Fo];omega
    go_quiet ((go_at_call 121;exact Calls.quiet_of_same (II.o _)));go_wp2;go_ret;exact⟨aq (qP (by omega)).symm,dv GW.o _⟩
  ·have z:¬((s:Int)=0):=by omega
   go_wp2;go_ret;exact⟨aq (qP (by omega)).symm,GW.o⟩
 ·by_cases z:s=0/\n=0
  ·obtain⟨rfl,rfl⟩:=z;go_wp2;go_ret;exact⟨aq (qP (by omega)).symm,GW.o⟩
  ·go_wp2
   all_goals
    go_ret;exact⟨aq (qP (by omega)).symm,GW.o⟩
theorem dp(s n:Nat)(w:World):∃w0,w0=w.alloc (.cells #[.int .i64 (s:Int),.int .i64 (n:Int)] 31)/\Below w.heap.size w w0/\w0.cell? ⟨w.heap.size,0,none⟩=some (.int .i64 (s:Int))/\w0.cell? ⟨w.heap.size,1,none⟩=some (.int .i64 (n:Int)):=by
 have Gd:=Whole.new w 31 #[.int .i64 (s:Int),.int .i64 (n:Int)];exact⟨_,rfl,(Below.refl _ w).alloc (Fm _) _,Gd.cell 0,Gd.cell 1⟩
theorem aK{w0 w':World}{p:Addr}{v:Value}(h:w0.cell? p=some v)(hb:Below w0.heap.size w0 w'):w'.cell? p=some v:=(hb.cell (ap h)).trans h
theorem qQ{w W W2:World}{p q:Addr}{u v:Value}(h:Below w.heap.size w W/\W.cell? p=some u/\W.cell? q=some v)(k:Below W.heap.size W W2):Below w.heap.size w W2/\W2.cell? p=some u/\W2.cell? q=some v:=
 ⟨ah h.1 k,(k.cell (ap h.2.1)).trans h.2.1,(k.cell (ap h.2.2)).trans h.2.2⟩
theorem lJ{w:World}{p q:Addr}{u v:Value}(x:w.cell? p=some u)(y:w.cell? q=some v):Below w.heap.size w w.drew/\w.drew.cell? p=some u/\w.drew.cell? q=some v:=⟨(Below.refl _ _).drew,x,y⟩
theorem mF(s n:Nat)(w:World)(h1:s<8589934592):Calls prog 139 #[.agg #[.int .i64 (s:Int),.int .i64 (n:Int)]] w λe w'=>e= .returned (.int .i64 (az s:Nat))/\Below w.heap.size w w':=by
 obtain⟨w0,Fx,FM,x0,x1⟩:=dp s n w;have GW:=Fh FM;clear FM;go_in;go_upto_region 1 with fail;rw[<-Fx];clear Fx;go_wp2;go_ret;exact⟨aH (by rw[az];omega),GW.o⟩
theorem wm(n:Nat)(w:World)(h1:n<8589934592):Calls prog 226 #[.int .i64 (n:Int)] w λe w'=>e= .returned (.int .i64 ((n+15)/16*16:Nat))/\w'=w:=by
 go_in;go_wp2;go_ret;exact⟨aH (by omega),rfl⟩
theorem lK(s n:Nat)(w:World)(hs:Sz w)(ok:LP s n=true):Calls prog 123 #[.agg #[.int .i64 (s:Int),.int .i64 (n:Int)]] w λe w'=>e= .returned (.int .i64 (aN s n:Nat))/\Below w.heap.size w w':=by
 obtain⟨w0,Fx,FM,x0,x1⟩:=dp s n w;have hk:=bB.1 ok;have HR:=Fh (dU s n w0 (hs.below FM) (by omega) (by omega));have GW:=Fh FM;have hn:n<=8192:=hk.2.2.2.2;have Si:s<=64:=hk.2.1;obtain⟨z,hz⟩:=Fp (az s);have hl:z<=2000:=by rw[hz,az];omega
 have IX:=λW=>mF s n W (by omega);have TP:=λW=>wm (z+n*4) W (by omega);rw[<-hz]at IX;rw[show((z+n*4:Nat):Int)=(z:Int)+(n:Int)*4 by omega]at TP;have XC:=Fh IX;have HPD:=Fh TP;have HZ:Hid ((z+n*4+15)/16*16=aN s n):=Fh (by rw[hz,aN]);rw[ok]at HR;clear FM hs IX ok hk hz TP;go_in;go_upto_region 1 with fail;rw[<-Fx];clear Fx;go_wp2_with fail;refine HR.o.mono ?_;rintro e w1⟨rfl,FN⟩;have y0:=aK x0 FN;have y1:=aK x1 FN;have GH:=Fh (ah GW.o FN);clear x0 x1 FN;have FJ:IntKind.i64.wrap ((n:Int)*4)=(n:Int)*4:=IntWalk.i64_in _ (by omega);have FL:IntKind.i64.wrap ((z:Int)+(n:Int)*4)=(z:Int)+(n:Int)*4:=IntWalk.i64_in _ (by omega);go_wp2_with fail;have Gu:=lJ y0 y1
 go_region_held3 (λw'=>Below w1.heap.size w1 w'/\w'.cell? ⟨w.heap.size,0,none⟩=some (.int .i64 (s:Int))/\w'.cell? ⟨w.heap.size,1,none⟩=some (.int .i64 (n:Int)))
  (first|exact Gu|assumption|exact qQ (by assumption) (by assumption))
  (first
   |((go_at_call 139;with_reducible refine(XC.o _).mono ?_);rintro e w2 ⟨rfl,FF⟩)
   |((go_at_call 226;with_reducible refine(HPD.o _).mono ?_);rintro e w2 ⟨rfl,rfl⟩))
 go_wp2;go_ret;exact⟨aH (by rw[<-HZ.o];omega),ah GH.o (And.left (by assumption))⟩
theorem jb(s n:Nat)(w:World)(hs:Sz w)(ok:LP s n=true):Calls prog 66 #[.agg #[.int .i64 (s:Int),.int .i64 (n:Int)]] w λe w'=>e= .returned (.int .i64 (br s n:Nat))/\Below w.heap.size w w':=by
 obtain⟨w0,Fx,FM,x0,x1⟩:=dp s n w;have hk:=bB.1 ok;have HR:=Fh (dU s n w0 (hs.below FM) (by omega) (by omega));have GW:=Fh FM;have Si:s<=64:=hk.2.1;have F8:=bu ok;obtain⟨z,hz⟩:=Fp (aN s n);have Pk:=λW (h:Below w0.heap.size w0 W)=>lK s n W ((hs.below FM).below h) ok;rw[<-hz]at Pk F8;have hl:z<=200000:=by omega
 have Vv:=Fh Pk;have HZ:Hid (z+s*1024=br s n):=Fh F8.2.2.2.2.2;rw[ok]at HR;clear FM hs ok hk hz Pk F8;go_in;go_upto_region 1 with fail;rw[<-Fx];clear Fx;go_wp2_with fail;refine HR.o.mono ?_;rintro e w1⟨rfl,FN⟩;have y0:=aK x0 FN;have y1:=aK x1 FN;have GH:=Fh (ah GW.o FN);have YG:=Fh FN;clear x0 x1 FN;have FJ:IntKind.i64.wrap ((s:Int)*1024)=(s:Int)*1024:=IntWalk.i64_in _ (by omega);have FL:IntKind.i64.wrap ((z:Int)+(s:Int)*1024)=(z:Int)+(s:Int)*1024:=IntWalk.i64_in _ (by omega);go_wp2_with fail;have Gu:=lJ y0 y1
 go_region_held3 (λw'=>Below w1.heap.size w1 w'/\w'.cell? ⟨w.heap.size,0,none⟩=some (.int .i64 (s:Int))/\w'.cell? ⟨w.heap.size,1,none⟩=some (.int .i64 (n:Int)))
  (first|exact Gu|assumption|exact qQ (by assumption) (by assumption))
  (first
   |((go_at_call 123;with_reducible refine(Vv.o _ (ah YG.o (by first|assumption|exact And.left (by assumption)))).mono ?_);rintro e w2 ⟨rfl,FF⟩))
 go_wp2;go_ret;exact⟨aH (by rw[<-HZ.o];omega),ah GH.o (And.left (by assumption))⟩
theorem wo(s n i many start size:Nat)(w:World)(hs:Sz w)(ok:LP s n=true)(hi:i<many)(hm:many<8589934592)(Hz:start<8589934592)(F8:size<=1024):
  Calls prog 138 #[.agg #[.int .i64 (s:Int),.int .i64 (n:Int)],.int .i64 (i:Int),.int .i64 (many:Int),.int .i64 (start:Int),.int .i64 (size:Int)] w λe w'=>e= .returned (.int .i64 ((start+i*size:Nat):Int))/\Below w.heap.size w w':=by
 obtain⟨w0,Fx,FM,x0,x1⟩:=dp s n w;have hk:=bB.1 ok;have HR:=Fh (dU s n w0 (hs.below FM) (by omega) (by omega));have GW:=Fh FM;have hmul:i*size<=8589934592*1024:=Nat.mul_le_mul (by omega) F8;obtain⟨q,hq⟩:=Fp (i*size);have hq':(i:Int)*(size:Int)=(q:Int):=by rw[hq];simp
 rw[<-hq]at hmul⊢;rw[ok]at HR;clear FM hs ok hk hq;go_in;go_upto_region 1 with fail;rw[<-Fx];clear Fx;go_wp2_with fail;refine HR.o.mono ?_;rintro e w1⟨rfl,FN⟩;have GH:=Fh (ah GW.o FN);clear x0 x1 FN;go_wp2;go_ret;exact⟨aH (by omega),GH.o⟩
theorem oE(s n i:Nat)(w:World)(hs:Sz w)(ok:LP s n=true)(hi:i<s):Calls prog 290 #[.agg #[.int .i64 (s:Int),.int .i64 (n:Int)],.int .i64 (i:Int)] w λe w'=>e= .returned (.int .i64 ((128+i*16:Nat):Int))/\Below w.heap.size w w':=by
 obtain⟨w0,Fx,FM,x0,x1⟩:=dp s n w;have hk:=bB.1 ok;have Nu:=Fh (wo s n i s 128 16 w0 (hs.below FM) ok hi (by omega) (by omega) (by omega));have GW:=Fh FM;clear FM hs ok hk;go_in;go_upto_region 1 with fail;rw[<-Fx];clear Fx;go_wp2_with fail;refine Nu.o.mono ?_;rintro e w1⟨rfl,FN⟩;go_wp2;go_ret;exact⟨rfl,ah GW.o FN⟩
theorem kU(s n i:Nat)(w:World)(hs:Sz w)(ok:LP s n=true)(hi:i<n):Calls prog 76 #[.agg #[.int .i64 (s:Int),.int .i64 (n:Int)],.int .i64 (i:Int)] w λe w'=>e= .returned (.int .i64 ((az s+i*4:Nat):Int))/\Below w.heap.size w w':=by
 obtain⟨w0,Fx,FM,x0,x1⟩:=dp s n w;have hk:=bB.1 ok;have HR:=Fh (dU s n w0 (hs.below FM) (by omega) (by omega));have GW:=Fh FM;obtain⟨z,hz⟩:=Fp (az s);have hl:z<=2000:=by rw[hz,az];omega
 have IX:=λW=>mF s n W (by omega);have GU:=λW (h:Below w0.heap.size w0 W)=>wo s n i n z 4 W ((hs.below FM).below h) ok hi (by omega) (by omega) (by omega);rw[<-hz]at IX⊢;have XC:=Fh IX;have Nu:=Fh GU;rw[ok]at HR;clear FM hs IX ok hk hz GU;go_in;go_upto_region 1 with fail;rw[<-Fx];clear Fx;go_wp2_with fail;refine HR.o.mono ?_;rintro e w1⟨rfl,FN⟩;have y0:=aK x0 FN;have y1:=aK x1 FN;have GH:=Fh (ah GW.o FN);have YG:=Fh FN;clear x0 x1 FN;go_wp2_with fail;have Gu:=lJ y0 y1
 go_region_held3 (λw'=>Below w1.heap.size w1 w'/\w'.cell? ⟨w.heap.size,0,none⟩=some (.int .i64 (s:Int))/\w'.cell? ⟨w.heap.size,1,none⟩=some (.int .i64 (n:Int)))
  (first|exact Gu|assumption|exact qQ (by assumption) (by assumption))
  (first
   |((go_at_call 139;with_reducible refine(XC.o _).mono ?_);rintro e w2 ⟨rfl,FF⟩)
   |((go_at_call 138;refine(Nu.o _ (ah YG.o (by first|assumption|exact And.left (by assumption)))).mono ?_);rintro e w2 ⟨rfl,FF⟩))
 go_wp2;go_ret;exact⟨rfl,ah GH.o (And.left (by assumption))⟩
theorem wq(s n i:Nat)(w:World)(hs:Sz w)(ok:LP s n=true)(hi:i<s):Calls prog 283 #[.agg #[.int .i64 (s:Int),.int .i64 (n:Int)],.int .i64 (i:Int)] w λe w'=>e= .returned (.int .i64 ((aN s n+i*1024:Nat):Int))/\Below w.heap.size w w':=by
 obtain⟨w0,Fx,FM,y0,y1⟩:=dp s n w;have hk:=bB.1 ok;have GW:=Fh FM;have F8:=bu ok;obtain⟨z,hz⟩:=Fp (aN s n);have Pk:=λW (h:Below w0.heap.size w0 W)=>lK s n W ((hs.below FM).below h) ok;rw[<-hz]at Pk F8⊢;have GU:=λW (h:Below w0.heap.size w0 W)=>wo s n i s z 1024 W ((hs.below FM).below h) ok hi (by omega) (by omega) (by omega);have Vv:=Fh Pk;have Nu:=Fh GU;clear FM hs ok hk hz GU Pk F8;go_in;go_upto_region 1 with fail;rw[<-Fx];clear Fx;go_wp2_with fail;have Gu:=lJ y0 y1
 go_region_held3 (λw'=>Below w0.heap.size w0 w'/\w'.cell? ⟨w.heap.size,0,none⟩=some (.int .i64 (s:Int))/\w'.cell? ⟨w.heap.size,1,none⟩=some (.int .i64 (n:Int)))
  (first|exact Gu|assumption|exact qQ (by assumption) (by assumption))
  (first
   |((go_at_call 123;with_reducible refine(Vv.o _ (by first|assumption|exact And.left (by assumption))).mono ?_);rintro e w2 ⟨rfl,FF⟩)
   |((go_at_call 138;refine(Nu.o _ (by first|assumption|exact And.left (by assumption))).mono ?_);rintro e w2 ⟨rfl,FF⟩))
 go_wp2;go_ret;exact⟨rfl,ah GW.o (And.left (by assumption))⟩
section
variable{O:av}{μ:Mm}{w:World}
theorem yZ(v b:Nat)(w:World)(hb:fF b)(hv:v<256^b):Calls prog 125 #[.int .u64 (v:Int),.int .i64 (b:Int)] w λe w'=>e= .returned (.bool true)/\w'=w:=by
 have HW:=Fh (qN b w hb);go_in;rcases hb with rfl|rfl|rfl|rfl
 ·go_wp2_with fail;refine HW.o.mono ?_;rintro e w1⟨rfl,rfl⟩;go_wp2;go_ret;exact⟨aq (by simp;omega),rfl⟩
 ·go_wp2_with fail;refine HW.o.mono ?_;rintro e w1⟨rfl,rfl⟩;go_wp2;go_ret;exact⟨aq (by simp;omega),rfl⟩
 ·go_wp2_with fail;refine HW.o.mono ?_;rintro e w1⟨rfl,rfl⟩;go_wp2;go_ret;exact⟨aq (by simp;omega),rfl⟩
 ·go_wp2;go_ret;exact⟨rfl,rfl⟩
theorem sO{ab gb gc n:Nat}{t:Tr}(h:OZ ab gb gc n t w)(TM:n<=1200000)(a b v:Nat)(hb:fF b)(hd:a%b=0)(hr:a+b<=n)(hv:v<256^b):
  Calls prog 67 #[.pointer (some ⟨ab,0,none⟩),.int .i64 (a:Int),.int .i64 (b:Int),.int .u64 (v:Int)] w λe w'=>e= .returned (.int .i64 0)/\OZ ab gb gc n (t.store a b v) w'/\aa (λk=>k=gb) w w':=by
 have HN:=Fh (sM h);have hl:=sK gb 0 n gc a b (λj=>t.get (a+j)) w hb hd hr (by omega) (λj=>Tr.Jz _ _) (λj hj=>by rw[Nat.zero_add];exact h.2.1.cell (by omega));rw[Mx]at hl;have c0:=h.1.cell 0;simp only [List.getElem?_toArray,List.getElem?_cons_zero]at c0;have HF:=Fh (yZ v b w hb hv);have h8:b<=8:=by rcases hb with rfl|rfl|rfl|rfl<;>omega
 have hv64:v<18446744073709551616:=by
  have:256^b<=256^8:=Nat.pow_le_pow_right (by decide) h8;have e8:256^8=18446744073709551616:=by decide
  omega
 have hne:ab≠gb:=by
  obtain⟨cs,hcs,_⟩:=h.2.1;exact aE h.1 hcs (by decide)
 have HH:=Fh h;obtain⟨z,G9⟩:=Fp (t.load a b);rw[<-G9]at hl;have HL:=Fh hl;clear h hl hb hd G9 hv;go_in;go_wp2_with fail;refine HN.o.mono ?_;rintro e w1⟨rfl,rfl⟩;go_wp2_with fail;refine HL.o.mono ?_;rintro e w2⟨rfl,rfl⟩;go_wp2_with fail;refine HF.o.mono ?_;rintro e w3⟨rfl,rfl⟩;have FE:Hid (OZ ab gb gc n (t.store a 0 v) w3/\aa (λk=>k=gb) w3 w3):=Fh ⟨HH.o,aa.refl _ _⟩;go_wp2_with fail;clear c0
 go_loopw [11,36] (λ_ TQ wr=>∃k:Nat,k<=b/\TQ= .int .i64 k/\Hid (OZ ab gb gc n (t.store a k v) wr/\aa (λk=>k=gb) w3 wr)) (λ_ TQ _=>match TQ with| .int _ m=>b-m.toNat|_=>0)
 case atStart=>exact⟨0,Nat.zero_le _,rfl,FE⟩
 case round=>
  obtain⟨k,hk,rfl,HG⟩:=hrel;by_cases FR:k<b
  ·have c0:=HG.o.1.1.cell 0;simp only [List.getElem?_toArray,List.getElem?_cons_zero]at c0;have hfz:=HG.o.1.2.1.frozen (a+k);have hcell:=HG.o.1.2.1.cell (i:=a+k) (by omega);have HW:Hid (∀x:Int,x=((v/256^k%256:Nat):Int)->OZ ab gb gc n (t.store a (k+1) v) (wr.setCell ⟨gb,a+k,none⟩ (.int .u8 x))/\aa (λk=>k=gb) w3 (wr.setCell ⟨gb,a+k,none⟩ (.int .u8 x))):=Fh (by
    rintro x rfl;have h1:=HG.o.1.2.1.put (i:=a+k) (by omega) (by omega) (v/256^k%256);rw[Nat.mod_mod]at h1;rw[Tr.Ms];have JQ:aa (λk=>k=gb) wr (wr.setCell ⟨gb,a+k,none⟩ (.int .u8 ((v/256^k%256:Nat):Int))):=(aa.refl (λk=>k=gb) wr).setCell (p:=⟨gb,a+k,none⟩) (.inl rfl) _;exact⟨⟨JQ.whole HG.o.1.1 hne,h1,HG.o.1.2.2⟩,HG.o.2.trans JQ⟩)
   have KM:k=0\/k=1\/k=2\/k=3\/k=4\/k=5\/k=6\/k=7:=by omega
   rcases KM with rfl|rfl|rfl|rfl|rfl|rfl|rfl|rfl
   all_goals
    try rw[Nat.add_zero]at hfz hcell
    go_wp2_with fail
    go_region
    all_goals
     go_wp2;go_roundw
     case rel=>exact⟨_,FR,rfl,Fh ⟨(HW.o _ (by simp<;>omega)).1.kept (aa.refl (λ_=>False) _).drew id id,(HW.o _ (by simp<;>omega)).2.drew⟩⟩
     case measure=>simp;omega
  ·have KZ:k=b:=by omega
   go_wp2;go_ret;refine⟨rfl,?_⟩;rw[<-KZ];exact HG.o
theorem Dn(h:ao O μ w)(a b v:Nat)(hb:fF b)(hd:a%b=0)(hr:a+b<=μ.size)(hv:v<256^b):
  Calls prog 67 #[.pointer (some ⟨O.ab,0,none⟩),.int .i64 (a:Int),.int .i64 (b:Int),.int .u64 (v:Int)] w λe w'=>e= .returned (.int .i64 0)/\MG O w {μ with b:=μ.b.store a b v} w':=by
 have:=h.sz;refine(sO h.a (by omega) a b v hb hd hr hv).mono ?_;rintro e w'⟨rfl,h1,h2⟩;exact⟨rfl,h.setA h2 h1⟩
theorem eY{a b kind v:Nat}{μ':Mm}(h:μ.st a b kind v=some μ'):μ.may a b kind=true/\v<256^b/\μ'= {μ with b:=μ.b.store a b v}:=by
 unfold Mm.st at h;split at h
 ·rename_i h1
  exact⟨h1.1,h1.2,(Fk h).symm⟩
 ·cases h
theorem fo(h:ao O μ w)(a b kind v:Nat)(μ':Mm)(hv:μ.st a b kind v=some μ'):Calls prog 135 #[.pointer (some ⟨O.mb,0,none⟩),.int .i64 (a:Int),.int .i64 (b:Int),.int .i64 (kind:Int),.int .u64 (v:Int)] w λe w'=>e= .returned (.bool true)/\MG O w μ' w':=by
 obtain⟨hm,Pl,rfl⟩:=eY hv;obtain⟨h1,h2,h3,h4⟩:=od.1 hm;have GU:=dT h4 h3;have HN:=Fh (dw h);have HL:=Fh (sL h a b kind hm);obtain⟨c0,c1,_,_⟩:=h.mc;have Nv:=λ(w':World) (hw:MG O w μ w')=>Dn hw.has a b v h1 h2 GU Pl;have HP:=Fh Nv;obtain⟨μ',hμ⟩:∃μ',μ'= {μ with b:=μ.b.store a b v}:=⟨_,rfl⟩;rw[<-hμ]at HP⊢;clear hv hm h1 h2 h3 h4 GU h Nv hμ Pl;go_in;go_wp2_with fail;refine HN.o.mono ?_;rintro e w1⟨rfl,rfl⟩;go_wp2_with fail;refine HL.o.mono ?_;rintro e w2⟨rfl,Gg⟩;obtain⟨d0,d1,_,_⟩:=Gg.has.mc;have FK:=Fh Gg;clear Gg;go_wp2_with fail;refine(HP.o _ FK.o).mono ?_;rintro e w3⟨rfl,FZ⟩;have FT:=Fh (FK.o.trans FZ);clear FZ;go_wp2;go_ret;exact⟨rfl,FT.o⟩
theorem tO(h:ao O μ w)(a n:Nat)(hn:1<=n)(hr:a+n<=μ.size):Calls prog 262 #[.pointer (some ⟨O.mb,0,none⟩),.int .i64 (a:Int),.int .i64 (n:Int)] w λe w'=>e= .returned (.int .i64 (μ.FH a n:Nat))/\w'=w:=by
 have HN:=Fh (dw h);have HK:=Fh (xO h a n hn hr);obtain⟨c0,c1,_,_⟩:=h.mc;clear h hr;go_in;go_wp2_with fail;refine HN.o.mono ?_;rintro e w1⟨rfl,rfl⟩;go_wp2_with fail;refine HK.o.mono ?_;rintro e w2⟨rfl,rfl⟩;go_wp2;go_ret;exact⟨rfl,rfl⟩
theorem bY{w:World}{rb:Nat}{T:TypeId}{a0 a1:Value}(h:Whole w rb T #[a0,a1])(x y:Value):Whole ((w.setCell ⟨rb,0,none⟩ x).setCell ⟨rb,1,none⟩ y) rb T #[x,y]:=(h.put 0 x).put 1 y
theorem aD(h:ao O μ w):Calls prog 77 #[.pointer (some ⟨O.mb,0,none⟩)] w λe w'=>e= .returned (.agg #[.int .i64 (μ.Fq:Int),.int .i64 (μ.slots:Int)])/\Below w.heap.size w w':=by
 obtain⟨w0,Fx⟩:=Fp (w.alloc (.cells #[.int .i64 0,.int .i64 0] 31));have FM:Below w.heap.size w w0:=by rw[Fx];exact(Below.refl _ w).alloc (Fm _) _
 have Gd:Whole w0 w.heap.size 31 #[.int .i64 0,.int .i64 0]:=by rw[Fx];exact Whole.new w _ _
 have h0:=h.below FM;have HN:=Fh (dw h0);obtain⟨_,_,c2,c3⟩:=h0.mc;have x0:=Gd.cell 0;have x1:=Gd.cell 1;simp only [List.getElem?_toArray,List.getElem?_cons_zero,List.getElem?_cons_succ]at x0 x1;have f0:=Gd.frozen 0;have f1:=Gd.frozen 1;have GW:=Fh FM;have Jd:=Fh Gd;clear h h0 FM Gd;go_in;go_upto_region 1 with fail;rw[<-Fx];clear Fx;go_wp2_with fail;refine HN.o.mono ?_;rintro e w1⟨rfl,rfl⟩;go_wp2_with fail;refine bodyPost_ret (results_cell_row rfl _ _ w.heap.size 31 _ (0,0) _ rfl (bY Jd.o _ _) underlying31 rfl (by kernel_rfl)) rfl ?_;exact⟨rfl,aa.F1 (S:=λk=>k=w.heap.size) ((((aa.below GW.o (λk=>k=w.heap.size))).setCell (p:=⟨w.heap.size,0,none⟩) (.inl rfl) _).setCell (p:=⟨w.heap.size,1,none⟩) (.inl rfl) _) (Fm _) (λi hi e=>by omega)⟩
end
section
variable{O:av}{μ:Mm}{w:World}
theorem tP(f:Nat)(w:World)(he:eB w)(hf:f<21):Calls prog 134 #[.int .i64 (f:Int)] w λe w'=>e= .returned (.tuple #[.int .i64 (Mm.GA f:Nat),.int .i64 (Mm.Gl f:Nat)])/\w'=w:=by
 have hc:=he.fl f hf;have HE:Hid (TK.getD f 0=Mm.GA f):=Fh rfl;obtain⟨z,hz⟩:=Fp (TK.getD f 0);rw[<-hz]at hc HE;clear hz he;go_in;by_cases h:f=16
 ·subst h;go_wp2;go_ret2;rw[<-HE.o];exact⟨rfl,rfl⟩
 ·have HW:Hid (Mm.Gl f=4):=Fh (by rw[Mm.Gl,if_neg h]);have h':((f:Int)==16)=false:=by rw[Fo];omega
  go_wp2;go_ret2;rw[<-HE.o,HW.o];exact⟨rfl,rfl⟩
theorem qR(f:Nat):1<=Mm.Gl f/\Mm.Gl f<=8:=by
 unfold Mm.Gl;split<;>omega
theorem gj(h:ao O μ w)(f v:Nat)(hf:f<21)(hv:μ.root f=some v):Calls prog 95 #[.pointer (some ⟨O.mb,0,none⟩),.int .i64 (f:Int)] w λe w'=>e= .returned (.int .u64 (v:Int))/\MG O w μ w':=by
 have HF:=Fh (tP f w h.env hf);have HL:=Fh (dA h (Mm.GA f) (Mm.Gl f) 2 v hv);obtain⟨FJ,FL⟩:=qR f;obtain⟨a,ha⟩:=Fp (Mm.GA f);obtain⟨b,hb⟩:=Fp (Mm.Gl f);rw[<-ha,<-hb]at HF HL;rw[<-hb]at FJ FL;have hne:((b:Int)==0)=false:=by rw[Fo];omega
 clear h hv ha hb;go_in;go_wp2_with fail;refine HF.o.mono ?_;rintro e w1⟨rfl,rfl⟩;go_wp2_with fail;refine HL.o.mono ?_;rintro e w2⟨rfl,hg⟩;go_wp2;go_ret;exact⟨rfl,hg⟩
theorem bf(h:ao O μ w)(f v:Nat)(μ':Mm)(hf:f<21)(hv:μ.FG f v=some μ'):Calls prog 73 #[.pointer (some ⟨O.mb,0,none⟩),.int .i64 (f:Int),.int .u64 (v:Int)] w λe w'=>e= .returned (.bool true)/\MG O w μ' w':=by
 have HF:=Fh (tP f w h.env hf);have HL:=Fh (fo h (Mm.GA f) (Mm.Gl f) 2 v μ' hv);obtain⟨FJ,FL⟩:=qR f;obtain⟨a,ha⟩:=Fp (Mm.GA f);obtain⟨b,hb⟩:=Fp (Mm.Gl f);rw[<-ha,<-hb]at HF HL;rw[<-hb]at FJ FL;clear h hv ha hb;go_in;go_wp2_with fail;refine HF.o.mono ?_;rintro e w1⟨rfl,rfl⟩;go_wp2_with fail;refine HL.o.mono ?_;rintro e w2⟨rfl,hg⟩;go_wp2;go_ret;exact⟨rfl,hg⟩
end
section
variable{O:av}{μ:Mm}{w:World}
theorem AY(h:ao O μ w):Calls prog 234 #[.pointer (some ⟨O.ab,0,none⟩)] w λe w'=>e= .returned (.int .i64 (μ.size:Int))/\w'=w:=by
 have HN:=Fh (qO h);have c0:=h.ar.cell 0;simp only [List.getElem?_toArray,List.getElem?_cons_zero]at c0;obtain⟨q,hq⟩:=Fp μ.size;rw[<-hq]at c0⊢;clear h hq;go_in;go_wp2_with fail;refine HN.o.mono ?_;rintro e w1⟨rfl,rfl⟩;go_wp2;go_ret;exact⟨rfl,rfl⟩
theorem wu{a n kind:Nat}(h:μ.row a n kind=true):a+n<=μ.size/\∀i,i<n->μ.may (a+i) 1 kind=true:=by
 unfold Mm.row at h;simp only [Bool.and_eq_true,decide_eq_true_eq,List.all_eq_true,List.mem_range]at h;exact h
theorem wv(h:ao O μ w)(a n kind:Nat)(hr:μ.row a n kind=true):Calls prog 136 #[.pointer (some ⟨O.mb,0,none⟩),.int .i64 (a:Int),.int .i64 (n:Int),.int .i64 (kind:Int)] w λe w'=>e= .returned (.bool true)/\MG O w μ w':=by
 obtain⟨GU,TO⟩:=wu hr;have HN:=Fh (dw h);have HA:=Fh (AY h);obtain⟨c0,c1,_,_⟩:=h.mc;have hz:=h.sz.1;have HM:=Fh TO;have FE:=Fh (MG.refl h);obtain⟨q,hq⟩:=Fp μ.size;rw[<-hq]at HA hz GU;have e1:decide ((n:Int)<0)=false:=by simp
 have e2:decide ((a:Int)<0)=false:=by simp
 have e3:decide ((q:Int)<(a:Int))=false:=by simp;omega
 have e5:decide (q<a)=false:=by simp;omega
 have e4:decide ((q:Int)-(a:Int)<(n:Int))=false:=by simp;omega
 clear h hr TO hq;go_in;go_wp2_with fail;refine HN.o.mono ?_;rintro e w1⟨rfl,rfl⟩;go_wp2_with fail;refine HA.o.mono ?_;rintro e w2⟨rfl,rfl⟩;go_wp2_with fail;refine HA.o.mono ?_;rintro e w3⟨rfl,rfl⟩;go_wp2_with fail;clear c0 c1
 go_loopw [8,9,49] (λ_ _ Vw wr=>∃k:Nat,k<=n/\Vw= .int .i64 k/\Hid (MG O w3 μ wr)) (λ_ _ Vw _=>match Vw with| .int _ m=>n-m.toNat|_=>0)
 case atStart=>exact⟨0,Nat.zero_le _,rfl,FE⟩
 case round=>
  obtain⟨k,hk,rfl,HG⟩:=hrel;by_cases FR:k<n
  ·obtain⟨c0,c1,_,_⟩:=HG.o.has.mc;have hl:=sL HG.o.has (a+k) 1 kind (HM.o k FR);rw[show((a+k:Nat):Int)=(a:Int)+(k:Int)by omega]at hl;have HL:=Fh hl;clear hl;go_wp2_with fail;refine HL.o.mono ?_;rintro e w4⟨rfl,F9⟩;have FW:=Fh (HG.o.trans F9);clear F9;go_wp2;go_roundw
   case rel=>exact⟨k+1,FR,by go_num,FW⟩
   case measure=>simp;omega
  ·go_wp2;go_ret;exact⟨rfl,HG.o⟩
theorem oe(h:ao O μ w)(a n:Nat)(hn:1<=n)(hr:a+n<=μ.size):Calls prog 309 #[.pointer (some ⟨O.ab,0,none⟩),.int .i64 (a:Int),.int .i64 (n:Int)] w λe w'=>e= .returned (.tuple #[.slice (some ⟨O.gb,a,none⟩) n n,.int .i64 0])/\w'=w:=by
 have HN:=Fh (qO h);have c0:=h.ar.cell 0;simp only [List.getElem?_toArray,List.getElem?_cons_zero]at c0;have hz:=h.sz.1;have XD:=h.gc;obtain⟨q,hq⟩:=Fp μ.size;rw[<-hq]at c0 hz hr XD;have e1:decide ((n:Int)<0)=false:=by simp
 have e2:decide ((a:Int)<0)=false:=by simp
 have e3:decide ((q:Int)<(a:Int))=false:=by simp;omega
 have e5:decide (q<a)=false:=by simp;omega
 have e4:decide ((q:Int)-(a:Int)<(n:Int))=false:=by simp;omega
 clear h hq;go_in;go_wp2_with fail;refine HN.o.mono ?_;rintro e w1⟨rfl,rfl⟩;have e6:a+n-a=n:=by omega
 go_wp2;go_ret2;rw[e6];exact⟨rfl,rfl⟩
theorem ao.My:∀(n:Nat) {μ:Mm} {w:World} (h:ao O μ w) (a:Nat),a+n<=μ.size->ao O {μ with b:=μ.b.fill a n 0} (w.setCells O.gb a (List.replicate n (.int .u8 0)))/\aa (au O) w (w.setCells O.gb a (List.replicate n (.int .u8 0)))
 |0,μ,w,h,a,_=>⟨h,aa.refl _ _⟩
 |n+1,μ,w,h,a,hr=>by
  have h1:=h.wrote (i:=a) (by omega) 0;obtain⟨h2,k2⟩:=ao.My n h1 (a+1) (by show a+1+n<=μ.size;omega);rw[List.replicate_succ,World.setCells];exact⟨h2,((aa.refl (au O) w).setCell (p:=⟨O.gb,a,none⟩) (.inl (.inr (.inl rfl))) _).trans k2⟩
theorem AZ(h:ao O μ w)(a n:Nat)(hn:1<=n)(hr:a+n<=μ.size):Calls prog 236 #[.slice (some ⟨O.gb,a,none⟩) n n] w λe w'=>e= .returned (.tuple #[])/\MG O w {μ with b:=μ.b.fill a n 0} w':=by
 have hc:=λty=>Lib.run_clear_slice w 73 5 ty (.int .u8 0) underlying73 zeroValue5 rfl rfl O.gb a n n (by omega) (λj hj=>by rw[h.JP.cell (i:=a+j) (by omega)];rfl) (λj hj=>h.JP.frozen _);have hz:=ao.My n h a hr;have HZ:=Fh hz;clear hz h hr;go_in;go_wp2;go_end0;exact⟨rfl,HZ.o.1,HZ.o.2⟩
theorem wx(h:ao O μ w)(a n:Nat)(hn:1<=n)(hr:a+n<=μ.size):Calls prog 235 #[.pointer (some ⟨O.ab,0,none⟩),.int .i64 (a:Int),.int .i64 (n:Int),.func (.func 236) #[] #[]] w λe w'=>e= .returned (.int .i64 0)/\MG O w {μ with b:=μ.b.fill a n 0} w':=by
 have HP:=Fh (oe h a n hn hr);have HZ:=Fh (AZ h a n hn hr);clear h hn hr;go_in;go_wp2_with fail;refine HP.o.mono ?_;rintro e w1⟨rfl,rfl⟩;go_wp2_with fail;refine HZ.o.mono ?_;rintro e w2⟨rfl,hg⟩;go_wp2;go_ret;exact⟨rfl,hg⟩
theorem A0(h:ao O μ w)(a n:Nat)(hn:1<=n)(hr:a+n<=μ.size):Calls prog 137 #[.pointer (some ⟨O.ab,0,none⟩),.int .i64 (a:Int),.int .i64 (n:Int)] w λe w'=>e= .returned (.int .i64 0)/\MG O w {μ with b:=μ.b.fill a n 0} w':=by
 have HP:=Fh (oe h a n hn hr);have HW:=Fh (wx h a n hn hr);clear h hn hr HP;go_in;go_wp2_with fail;refine HW.o.mono ?_;rintro e w1⟨rfl,hg⟩;go_wp2;go_ret;exact⟨rfl,hg⟩
theorem lL(h:ao O μ w)(a n kind:Nat)(μ':Mm)(hn:1<=n)(hz:μ.zero a n kind=some μ'):Calls prog 75 #[.pointer (some ⟨O.mb,0,none⟩),.int .i64 (a:Int),.int .i64 (n:Int),.int .i64 (kind:Int)] w λe w'=>e= .returned (.bool true)/\MG O w μ' w':=by
 unfold Mm.zero at hz;split at hz
 rotate_left
 ·cases hz
 rename_i hr
 obtain rfl:=Fk hz;have HR:=Fh (wv h a n kind hr);have haz:=λw' (hg:MG O w μ w')=>A0 hg.has a n hn (wu hr).1;have HZ:=Fh haz;clear h haz hr hz;go_in;go_wp2_with fail;refine HR.o.mono ?_;rintro e w1⟨rfl,hg⟩;obtain⟨c0,c1,_,_⟩:=hg.has.mc;have HG:=Fh hg;clear hg;go_wp2_with fail;refine(HZ.o _ HG.o).mono ?_;rintro e w2⟨rfl,Gg⟩;have FK:=Fh (HG.o.trans Gg);clear Gg;go_wp2;go_ret;exact⟨rfl,FK.o⟩
end
section
variable{O:av}{μ:Mm}{w:World}
theorem za{a n kind:Nat}{μ':Mm}(h:μ.mark a n kind=some μ'):a+n<=μ.size/\a%4=0/\n%4=0/\kind<=8/\μ'= {μ with k:=μ.k.fill (a/4) (n/4) kind}:=by
 unfold Mm.mark at h;split at h
 ·rename_i h1
  exact⟨h1.1,h1.2.1,h1.2.2.1,h1.2.2.2,(Fk h).symm⟩
 ·cases h
theorem xP{wb kb kc N:Nat}{T:Tr}(h:O0 wb kb kc N T w)(TM:N<=300000)(a n kind:Nat)(GU:a+n<=4*N)(I7:a%4=0)(Qj:n%4=0)(KM:kind<=8):
  Calls prog 128 #[.pointer (some ⟨wb,0,none⟩),.int .i64 (a:Int),.int .i64 (n:Int),.int .i64 (kind:Int)] w λe w'=>e= .returned (.int .i64 0)/\O0 wb kb kc N (T.fill (a/4) (n/4) kind) w'/\aa (λk=>k=kb) w w':=by
 have HN:=Fh (xL h);have HF:=Fh (AX h TM a n GU);have hne:wb≠kb:=by
  obtain⟨⟨c,hc⟩,⟨cs,hcs,_⟩,_⟩:=h;exact aE hc hcs (by decide)
 have FE:Hid (O0 wb kb kc N (T.fill (a/4) 0 kind) w/\aa (λk=>k=kb) w w):=Fh ⟨h,aa.refl _ _⟩;obtain⟨⟨k0,IK⟩,_,TN⟩:=h;have c0:=IK.cell 0;simp only [List.getElem?_toArray,List.getElem?_cons_zero]at c0;obtain⟨f,hf⟩:=Fp (a/4);obtain⟨t,ht⟩:=Fp (n/4);have hft:f+t<=N:=by omega
 have EF:Hid ((a:Int)/4=(f:Int)):=Fh (by omega);have ET:Hid (((a:Int)+(n:Int))/4=((f+t:Nat):Int)):=Fh (by omega);have m1:(a:Int)%4=0:=by omega
 have m2:(n:Int)%4=0:=by omega
 have z1:a<=1200000:=by omega
 have z2:n<=1200000:=by omega
 rw[<-hf]at FE;rw[<-hf,<-ht];have TR:=Fh m1;have V1:=Fh m2;clear IK hf ht m1 m2 I7 Qj GU;go_in;go_wp2_with fail;refine HN.o.mono ?_;rintro e w1⟨rfl,rfl⟩;go_wp2_with fail;refine HF.o.mono ?_;rintro e w2⟨rfl,rfl⟩;have m1:=TR.o;have m2:=V1.o;have ef:=EF.o;have et:=ET.o;have e6:f+t-f=t:=by omega
 rcases Nat.eq_zero_or_pos t with h0|Pm
 ·subst h0;go_wp2_with fail
  all_goals
   clear c0
   go_loopw [10,49] (λ_ Vw wr=>Vw= .int .i64 ((0:Nat):Int)/\wr=w2) (λ_ Vw _=>0)
   case atStart=>exact⟨rfl,rfl⟩
   case round=>
    obtain⟨rfl,rfl⟩:=hrel;go_wp2;go_ret;exact⟨rfl,FE.o⟩
 ·have Ot:f<kc:=by omega
  go_wp2_with fail;clear c0 m1 m2 ef et
  go_loopw [10,49] (λ_ Vw wr=>∃j:Nat,j<=t/\Vw= .int .i64 j/\Hid (O0 wb kb kc N (T.fill f j kind) wr/\aa (λk=>k=kb) w2 wr)) (λ_ Vw _=>match Vw with| .int _ m=>t-m.toNat|_=>0)
  case atStart=>exact⟨0,Nat.zero_le _,rfl,FE⟩
  case round=>
   obtain⟨j,hj,rfl,HG⟩:=hrel;by_cases FR:j<t
   ·have hfz:=HG.o.1.2.1.frozen (f+j);have hcell:=HG.o.1.2.1.cell (i:=f+j) (by omega);have HW:Hid (∀x:Int,x=((kind%256:Nat):Int)->O0 wb kb kc N (T.fill f (j+1) kind) (wr.setCell ⟨kb,f+j,none⟩ (.int .u8 x))/\aa (λk=>k=kb) w2 (wr.setCell ⟨kb,f+j,none⟩ (.int .u8 x))):=Fh (by
     rintro x rfl;have h1:=HG.o.1.2.1.put (i:=f+j) (by omega) (by omega) kind;rw[Tr.NQ];have JQ:aa (λk=>k=kb) wr (wr.setCell ⟨kb,f+j,none⟩ (.int .u8 ((kind%256:Nat):Int))):=(aa.refl (λk=>k=kb) wr).setCell (p:=⟨kb,f+j,none⟩) (.inl rfl) _;obtain⟨⟨c,hc⟩,_,h3⟩:=HG.o.1;exact⟨⟨⟨c,JQ.whole hc hne⟩,h1,h3⟩,HG.o.2.trans JQ⟩)
    go_wp2;go_roundw
    case rel=>exact⟨j+1,FR,by go_num,Fh (HW.o _ (by omega))⟩
    case measure=>simp;omega
   ·have hjt:j=t:=by omega
    go_wp2;go_ret;refine⟨rfl,?_⟩;rw[<-hjt];exact HG.o
theorem Ba(h:ao O μ w)(a n kind:Nat)(μ':Mm)(hm:μ.mark a n kind=some μ'):
  Calls prog 128 #[.pointer (some ⟨O.wb,0,none⟩),.int .i64 (a:Int),.int .i64 (n:Int),.int .i64 (kind:Int)] w λe w'=>e= .returned (.int .i64 0)/\MG O w μ' w':=by
 obtain⟨GU,I7,Qj,KM,rfl⟩:=za hm;have:=h.sz;refine(xP h.wa (by omega) a n kind (by omega) I7 Qj KM).mono ?_;rintro e w'⟨rfl,h1,h2⟩;exact⟨rfl,h.setW h2 h1⟩
theorem jc(h:ao O μ w)(a n kind:Nat)(μ':Mm)(hm:μ.mark a n kind=some μ'):
  Calls prog 193 #[.pointer (some ⟨O.mb,0,none⟩),.int .i64 (a:Int),.int .i64 (n:Int),.int .i64 (kind:Int)] w λe w'=>e= .returned (.int .i64 0)/\MG O w μ' w':=by
 have HN:=Fh (dw h);have HM:=Fh (Ba h a n kind μ' hm);obtain⟨c0,c1,_,_⟩:=h.mc;clear h hm;go_in;go_wp2_with fail;refine HN.o.mono ?_;rintro e w1⟨rfl,rfl⟩;go_wp2_with fail;refine HM.o.mono ?_;rintro e w2⟨rfl,hg⟩;go_wp2;go_ret;exact⟨rfl,hg⟩
end
end Go.Proofs.YtifkphcaelafjaaGreatDoor
namespace Go.FC
open Go.FP Go.Fy Go.Fz
structure Bk where
 tag:Nat:=0
 Ft:Nat:=0
 used:Nat:=0
 label:Nat:=0
 name:Nat:=0
 next:Nat:=0
 prev:Nat:=0
 FB:Nat:=0
 typ:Nat:=0
 size:Nat:=0
 hash:Nat:=0
 refs:Nat:=0
deriving DecidableEq
def Nw:List (List (Nat×Nat)):=
 [[(0,1),(1,1),(2,1),(3,1),(4,4)],
  [(0,1),(1,1),(2,1),(3,1),(4,4),(8,4),(12,4),(16,8),(24,2),(26,2),(28,4)],
  [(0,1),(1,1),(2,1),(3,1),(4,4),(0,0),(0,0),(0,0),(0,0),(0,0),(12,4),(8,4)]]
def FO(tag f:Nat):Nat×Nat:=(Nw.getD tag []).getD f (0,0)
def dB(a:Nat)(m:Mm):Option (Nat×Nat):=if m.FH a 4=5 then(m.ld a 1 5).bind λt=>some (t,5)else some (0,m.FH a 4)
def S9(a t k f:Nat)(m:Mm):Option Nat:=if(FO t f).2=0 then some 0 else m.ld (a+(FO t f).1) (FO t f).2 k
def im(a f:Nat)(m:Mm):Option Nat:=(dB a m).bind λq=>S9 a q.1 q.2 f m
def bE(a f v:Nat)(m:Mm):Option Mm:=(dB a m).bind λq=>if(FO q.1 f).2=0 then none else m.st (a+(FO q.1 f).1) (FO q.1 f).2 q.2 v
def aT(b:Bk):List Nat:= [b.tag,b.Ft,b.used,b.label,b.name,b.next,b.prev,b.FB,b.typ,b.size,b.hash,b.refs]
def jd(l:List Nat):Bk:=⟨l.getD 0 0,l.getD 1 0,l.getD 2 0,l.getD 3 0,l.getD 4 0,l.getD 5 0,l.getD 6 0,l.getD 7 0,l.getD 8 0,l.getD 9 0,l.getD 10 0,l.getD 11 0⟩
def aW(b:Bk):Bool:=(List.range 12).any λf=> !Nat.beq ((aT b).getD f 0) 0&&Nat.beq (FO b.tag f).2 0
def bn(b:Bk):Bool:=
 Nat.ble b.tag 2&&Nat.ble b.size 480&& !aW b&&(if b.tag=0 then Nat.beq b.Ft 0&&Nat.beq b.used 0&&Nat.beq b.label 0
  else if b.tag=1 then Nat.ble 1 b.Ft&&Nat.ble b.Ft 9&&Nat.beq b.label 0
  else Nat.ble 1 b.Ft&&Nat.ble b.Ft 9&&Nat.beq b.used 0&&Nat.ble 1 b.label&&Nat.ble b.label 63)
def tQ(a t k:Nat)(m:Mm):Nat->Nat->Option (List Nat)
 |_,0=>some []
 |f,n+1=>(S9 a t k f m).bind λv=>(tQ a t k m (f+1) n).bind λl=>some (v::l)
def da(a:Nat)(m:Mm):Option (Bk×Nat):=
 (dB a m).bind λq=>
  if q.2≠5/\q.2≠6 then some ({},30)else if 2<q.1 then some ({},4)
  else(tQ a q.1 q.2 m 0 12).bind λl=>if(jd l).tag≠q.1\/1<(jd l).used\/bn (jd l)=false then some ({},4)else some (jd l,0)
def eC(a k:Nat)(b:Bk):Nat->Nat->Mm->Option Mm
 |_,0,m=>some m
 |f,n+1,m=>(if(FO b.tag f).2=0 then some m else m.st (a+(FO b.tag f).1) (FO b.tag f).2 k ((aT b).getD f 0)).bind (eC a k b (f+1) n)
def gk(a:Nat)(b:Bk)(m:Mm):Option Mm:=if bn b=true then eC a (if b.tag=0 then 6 else 5) b 0 12 m else none
def Mm.bytes(m:Mm)(a n:Nat):List UInt8:=(List.range n).map λi=>UInt8.ofNat (m.b.get (a+i))
def dC(a n k:Nat)(m:Mm):Option (List UInt8):=if 1<=n/\m.row a n k=true then some (m.bytes a n)else none
def Tr.lay(t:Tr)(a:Nat):List UInt8->Tr
 | []=>t
 |x::l=>(t.put a x.toNat).lay (a+1) l
def cV(a k:Nat)(l:List UInt8)(m:Mm):Option Mm:=if 1<=l.length/\m.row a l.length k=true then some {m with b:=m.b.lay a l}else none
def bw(m:Mm):Nat->Nat->Option (List Nat)
 |0,_=>none
 |k+1,s=>if s=0 then some []else(cx (s-1) 8 4 m).bind λn=>(bw m k n).bind λl=>some ((s-1)::l)
def gm(m:Mm)(Hl:Nat):Nat->Nat->Nat->Option (Bool×Nat)
 |0,_,_=>none
 |k+1,s,prev=>if s=0 then some (false,prev)else if Hl<s-1 then some (false,prev)else if s-1=Hl then some (true,prev)else(cx (s-1) 8 4 m).bind λn=>gm m Hl k n s
def cA(c Hl:Nat)(m:Mm):Option (Bool×Nat):=(m.root (3+c)).bind λs=>(bw m (m.Fq+1) s).bind λ_=>gm m Hl (m.Fq+1) s 0
def iq(Hl:Nat)(m:Mm):Nat->Nat->Option Unit
 |_,0=>some ()
 |c,k+1=>(cA c Hl m).bind λq=>if q.1=true then none else iq Hl m (c+1) k
def oF(c s:Nat)(m:Mm):Option Mm:=
 (iq s m 0 10).bind λ_=>(cA c s m).bind λq=>(m.root (3+c)).bind λf=>(if 0<q.2 then cx (q.2-1) 8 4 m else some f).bind λn=>nK c s q.2 n m
def oG(c s:Nat)(m:Mm):Option Mm:=
 (cA c s m).bind λq=>if q.1=false then none else(cx s 8 4 m).bind λn=>(fy c q.2 n m).bind λm1=>
  (if 0<n then dQ (n-1) 12 4 q.2 m1 else some m1).bind λm2=>(dQ s 8 4 0 m2).bind λm3=>dQ s 12 4 0 m3
def gS(s Ft live free:Nat)(m:Mm):Option Mm:=if Ft<=9 then(dQ s 0 2 Ft m).bind λm1=>(dQ s 2 2 live m1).bind λm2=>dQ s 4 4 free m2 else none
def qS(a free:Nat)(m:Mm):Option Mm:=gk a {name:=free} m
def dD(at0 sz:Nat):Nat->Nat->Mm->Option (Nat×Mm)
 |0,free,m=>some (free,m)
 |k+1,free,m=>(qS (at0+k*sz) free m).bind λm1=>dD at0 sz k (at0+k*sz) m1
def ir(s c:Nat)(x:Sl)(m:Mm):Option (Sl×Mm):=
 (oG 0 s m).bind λm1=>(m1.mark (ax m s) (ae c*ai c) 6).bind λm2=>(m2.mark (ax m s+ae c*ai c) (fA c) 8).bind λm3=>
  (dD (ax m s) (ae c) (ai c) x.free m3).bind λq=>(gS s c x.live q.1 q.2).bind λm4=>(oF c s m4).bind λm5=>some ({x with Ft:=c,free:=q.1},m5)
def qT(s:Nat)(x:Sl)(m:Mm):Option Mm:=
 (m.zero (ax m s) (ae x.Ft*ai x.Ft) 6).bind λm1=>(m1.mark (ax m s) 1024 7).bind λm2=>(oG x.Ft s m2).bind λm3=>(gS s 0 0 0 m3).bind λm4=>oF 0 s m4
def tR(s:Nat)(x:Sl)(m:Mm):Option (Nat×Mm):=
 (im x.free 4 m).bind λf=>(bE x.free 4 0 m).bind λm1=>(m1.mark x.free (ae x.Ft) 5).bind λm2=>(gS s x.Ft (x.live+1) f m2).bind λm3=>
  (if f=0 then oG x.Ft s m3 else some m3).bind λm4=>some (x.free,m4)
def dd(c:Nat)(m:Mm):Option ((Nat×Nat)×Mm):=
 if 1<=c/\c<=9 then(m.root (3+c)).bind λs=>
  if s≠0 then(dR (s-1) m).bind λx=>(tR (s-1) x m).bind λq=>some ((q.1,0),q.2)
  else(m.root 3).bind λs=>if s=0 then some ((0,5),m)else(dR (s-1) m).bind λx=>(ir (s-1) c x m).bind λq=>(tR (s-1) q.1 q.2).bind λq=>some ((q.1,0),q.2)
 else none
def je(a:Nat)(m:Mm):Option (Nat×Nat):=
 if m.base<=a/\a<m.size then(dR ((a-m.base)/1024) m).bind λx=>
  if x.Ft=0\/9<x.Ft\/ae x.Ft*ai x.Ft<=a-ax m ((a-m.base)/1024)then none
  else some ((a-m.base)/1024,a-(a-ax m ((a-m.base)/1024))%ae x.Ft)
 else none
def jf(a:Nat)(m:Mm):Option Mm:=
 (je a m).bind λq=>if q.2≠a then none else(dR q.1 m).bind λx=>if m.FH a (ae x.Ft)≠5 then none
  else(m.zero a (ae x.Ft) 5).bind λm1=>(m1.mark a (ae x.Ft) 6).bind λm2=>(if x.free=0 then oF x.Ft q.1 m2 else some m2).bind λm3=>
   (qS a x.free m3).bind λm4=>if x.live=0 then none else(gS q.1 x.Ft (x.live-1) a m4).bind λm5=>
    if x.live-1=0 then qT q.1 {x with free:=a,live:=0} m5 else some m5
def cP(m:Mm)(at0 sz:Nat):Nat->Nat->List Nat
 |_,0=> []
 |i,k+1=>if m.FH (at0+i*sz) sz=5 then(at0+i*sz)::cP m at0 sz (i+1) k else cP m at0 sz (i+1) k
def kJ(s:Nat)(m:Mm):Option (List Nat):=(dR s m).bind λx=>some (cP m (ax m s) (ae x.Ft) 0 (ai x.Ft))
def dE(i:Nat)(m:Mm):Option Nat:=m.ld (az m.Fq+i%m.slots*4) 4 4
def cG(i v:Nat)(m:Mm):Option Mm:=m.st (az m.Fq+i%m.slots*4) 4 4 v
def kK(a:Nat)(m:Mm):Option Nat:=im a 10 m
def wy(i:Nat)(m:Mm):Option Nat:=(dE i m).bind λv=>(kK v m).bind λh=>some (if i%m.slots<h%m.slots then i%m.slots+m.slots-h%m.slots else i%m.slots-h%m.slots)
def mG(i step:Nat)(m:Mm):Option Bool:=(dE i m).bind λv=>if v=0 then some true else(wy i m).bind λd=>some (decide (d<step))
def dF(m:Mm)(home:Nat)(is:Nat->Option Bool):Nat->Nat->Option (Option Nat)
 |0,_=>none
 |k+1,step=>if step=m.slots then some none else(mG (home+step) step m).bind λb=>if b=true then some none
   else(dE (home+step) m).bind λv=>(is v).bind λq=>if q=true then some (some ((home+step)%m.slots))else dF m home is k (step+1)
def lN(h:Nat)(is:Nat->Option Bool)(m:Mm):Option (Option Nat):=dF m (h%m.slots) is (m.slots+1) 0
def iu(a:Nat)(m:Mm):Option (Option Nat):=(kK a m).bind λh=>lN h (λv=>some (Nat.beq v a)) m
def eN(h:Nat)(is:Nat->Option Bool)(m:Mm):Option Nat:=(lN h is m).bind λr=>match r with
 |none=>some 0
 |some i=>dE i m
def jV(name typ h:Nat)(m:Mm)(a:Nat):Option Bool:=(da a m).bind λq=>some (Nat.beq q.1.tag 1&&Nat.beq q.1.name name&&Nat.beq q.1.typ typ&&Nat.beq q.1.hash h)
def mH(up:Nat)(l:List UInt8)(h:Nat)(m:Mm)(a:Nat):Option Bool:=(da a m).bind λq=>
 if q.1.tag≠2\/q.1.name≠up\/q.1.label≠l.length\/q.1.hash≠h then some false else(dC (a+16) q.1.label 5 m).bind λs=>some (decide (s=l))
def eZ(a:Nat)(m:Mm):Option Unit:=(da a m).bind λq=>if q.2=0/\q.1.tag≠0 then some ()else none
def qB(m:Mm)(fr:Nat):Nat->Nat->Option (Option Nat)
 |_,0=>some none
 |i,k+1=>(dE (fr+i) m).bind λv=>if v=0 then some (some i)else qB m fr (i+1) k
def ze(fr:Nat)(m:Mm):Option (Option Nat):=qB m fr 0 m.slots
def gH(m:Mm)(home:Nat):Nat->Nat->Option Nat
 |0,_=>none
 |k+1,d=>(mG (home+d) d m).bind λb=>if b=true then some (home+d)else gH m home k (d+1)
def iv(aaf:Nat):Nat->Mm->Option Mm
 |0,m=>some m
 |i+1,m=>(dE (aaf+i) m).bind λv=>(cG (aaf+(i+1)) v m).bind λm1=>iv aaf i m1
def iw(a:Nat)(m:Mm):Option Mm:=
 (eZ a m).bind λ_=>(iu a m).bind λp=>if p≠none then none else(kK a m).bind λh=>(ze (h%m.slots) m).bind λg=>if g=none then none
  else(gH m (h%m.slots) (m.slots+1) 0).bind λaaf=>(ze aaf m).bind λg=>match g with
   |none=>none
   |some g=>(iv aaf g m).bind λm1=>cG aaf a m1
def J3:Nat->Nat->Mm->Option (Nat×Mm)
 |0,i,m=>some (i,m)
 |k+1,i,m=>(dE (i+1) m).bind λv=>if v=0 then some (i,m)else(wy (i+1) m).bind λd=>if d=0 then some (i,m)else(cG i v m).bind λm1=>J3 k (i+1) m1
def fa(a:Nat)(m:Mm):Option Mm:=
 (eZ a m).bind λ_=>(iu a m).bind λp=>match p with
  |none=>none
  |some i=>(J3 (m.slots-1) i m).bind λq=>cG q.1 0 q.2
def jW(fr aaf:Nat)(m:Mm):Option Mm:=
 (eZ fr m).bind λ_=>(eZ aaf m).bind λ_=>(kK fr m).bind λh=>(kK aaf m).bind λh'=>if h≠h' then none else(iu fr m).bind λp=>match p with
  |none=>none
  |some i=>cG i aaf m
def jg(a:Nat)(m:Mm):Option Nat:=im a 5 m
def kL(a:Nat)(m:Mm):Option Nat:=im a 6 m
def jh(a b:Nat)(m:Mm):Option Mm:=(bE a 5 b m).bind λm1=>bE b 6 a m1
def eD(t a:Nat)(m:Mm):Option Bk:=(da a m).bind λq=>if q.2=0/\q.1.tag=t then some q.1 else none
def bK(f:Nat)(m:Mm):Option Mm:=(m.root f).bind λn=>m.FG f (n+1)
def dV(f:Nat)(m:Mm):Option Mm:=(m.root f).bind λn=>if n=0 then none else m.FG f (n-1)
def ji(a:Nat)(m:Mm):Option Mm:=
 (eD 1 a m).bind λ_=>(jg a m).bind λn=>if n≠0 then none else(m.root 13).bind λh=>
  (if h=0 then(jh a a m).bind λm1=>(m1.FG 13 a).bind λm2=>m2.FG 14 a
   else(kL h m).bind λp=>(jh p a m).bind λm1=>jh a h m1).bind λm3=>bK 15 m3
def gT(fr aaf:Nat)(m:Mm):Option Mm:=
 (m.root 13).bind λh=>(if h=fr then m.FG 13 aaf else some m).bind λm1=>(m1.root 14).bind λb=>if b=fr then m1.FG 14 aaf else some m1
def lO(a:Nat)(m:Mm):Option Mm:=
 (eD 1 a m).bind λ_=>(jg a m).bind λn=>if n=0 then none else(gT a (if n=a then 0 else n) m).bind λm1=>(kL a m1).bind λp=>
  (jh p n m1).bind λm2=>(bE a 5 0 m2).bind λm3=>(bE a 6 0 m3).bind λm4=>dV 15 m4
def jk(fr aaf:Nat)(m:Mm):Option Mm:=
 (eD 1 aaf m).bind λ_=>(jg aaf m).bind λn=>if n=0 then none else(if n=fr then jh aaf aaf m else(kL aaf m).bind λp=>(bE n 6 aaf m).bind λm1=>bE p 5 aaf m1).bind λm2=>gT fr aaf m2
def Vx(f:Nat)(m:Mm):Option (Nat×Mm):=(m.root f).bind λa=>if a=0 then some (a,m)else(jg a m).bind λn=>(m.FG f n).bind λm1=>some (a,m1)
def iU(m:Mm):Nat->Nat->Option (List Nat)
 |0,_=>some []
 |k+1,a=>(jg a m).bind λn=>(iU m k n).bind λl=>some (a::l)
def gU(m:Mm):Option (List Nat):=(m.root 13).bind λh=>(m.root 15).bind λn=>iU m n h
def iy(a:Nat)(m:Mm):Option Nat:=if a=0 then some 2166136261 else(eD 2 a m).bind λb=>some b.hash
def lP(a:Nat)(m:Mm):Option Unit:=(da a m).bind λq=>if a=0\/(q.2=0/\q.1.tag=2)then some ()else none
def mJ(up:Nat)(l:List UInt8)(m:Mm):Option Nat:=
 (lP up m).bind λ_=>if aG l≠0 then none else(iy up m).bind λh=>eN (cE h (FI l)) (mH up (FI l) (cE h (FI l)) m) m
def fG(a c:Nat)(m:Mm):Option Unit:=
 (je a m).bind λq=>if q.2≠a\/m.FH a 4≠5 then none else(dR q.1 m).bind λx=>if x.Ft≠c then none else(m.ld a 4 5).bind λv=>if v=0 then some ()else none
def iz(a:Nat)(m:Mm):Option Mm:=(im a 11 m).bind λn=>bE a 11 (n+1) m
def jX(a:Nat)(m:Mm):Option (Nat×Mm):=(im a 11 m).bind λn=>if n=0 then none else(bE a 11 (n-1) m).bind λm1=>some (n-1,m1)
def mK(a up:Nat)(l:List UInt8)(m:Mm):Option Mm:=
 if aG l≠0 then none else(lP up m).bind λ_=>(fG a (bl l.length).1 m).bind λ_=>(mJ up l m).bind λr=>if r≠0 then none else(iy up m).bind λh=>
  (gk a {tag:=2,Ft:=(bl l.length).1,label:=l.length,name:=up,hash:=cE h (FI l)} m).bind λm1=>(cV (a+16) 5 (FI l) m1).bind λm2=>
   (if up≠0 then iz up m2 else some m2).bind λm3=>(iw a m3).bind λm4=>bK 17 m4
def jm(a:Nat)(m:Mm):Option Mm:=(eD 2 a m).bind λ_=>iz a m
def sP(a:Nat)(m:Mm):Option Mm:=(fa a m).bind λm1=>(jf a m1).bind λm2=>dV 17 m2
def QI:Nat->Nat->Mm->Option Mm
 |0,_,_=>none
 |k+1,a,m=>if a=0 then some m else(jX a m).bind λq=>if q.1≠0 then some q.2 else(eD 2 a q.2).bind λb=>(sP a q.2).bind λm1=>QI k b.name m1
def qU(a:Nat)(m:Mm):Option Mm:=(eD 2 a m).bind λb=>if b.refs=0 then none else QI (m.slots+1) a m
def fc(a:Nat)(m:Mm):Option (List UInt8):=(eD 2 a m).bind λb=>dC (a+16) b.label 5 m
def dW(m:Mm):List (List UInt8)->Nat->Nat->Option (Nat×Nat)
 | [],a,n=>some (a,n)
 |l::r,a,n=>(mJ a l m).bind λd=>if d=0 then some (a,n)else dW m r d (n+1)
def kV(ls:List (List UInt8))(m:Mm):Option (Nat×Nat):=dW m ls.reverse 0 0
def YH(m:Mm):Nat->Nat->Option (List (List UInt8))
 |0,_=>none
 |k+1,a=>if a=0 then some []else(fc a m).bind λs=>(im a 4 m).bind λu=>(YH m k u).bind λl=>some (s::l)
def mL(a:Nat)(m:Mm):Option (List (List UInt8)):=(if a=0 then some []else fc a m).bind λ_=>YH m (m.slots+1) a
def tS(ls:List (List UInt8))(m:Mm):Option ((Nat×Nat)×Mm):=if aI ls≠0 then none else(kV ls m).bind λq=>(if q.1≠0 then jm q.1 m else some m).bind λm1=>some (q,m1)
def oH(up a:Nat)(l:List UInt8)(m:Mm):Option Mm:=(mK a up l m).bind λm1=>(if a≠0 then jm a m1 else none).bind λm2=>if up≠0 then qU up m2 else some m2
def fH(a:Nat)(m:Mm):Option Mm:=if a=0 then some m else qU a m
def GO:Nat->List (List UInt8)->List Nat
 |_,[]=> []
 |n,x::l=>(n+x.length)::GO (n+x.length) l
def Qk(n:Nat):List UInt8:= [UInt8.ofNat n,UInt8.ofNat (n/256)]
def bU(l:List (List UInt8)):List UInt8:=UInt8.ofNat l.length::0::((GO 0 l).flatMap Qk++l.flatten)
def kE(b:List UInt8)(i:Nat):Nat:=(b.getD i 0).toNat+256*(b.getD (i+1) 0).toNat
def iV(d:List UInt8):Nat->List Nat->List (List UInt8)
 |_,[]=> []
 |n,e::l=>((d.take e).drop n)::iV d e l
def Hc:List Nat->Bool
 | []=>true
 | [_]=>true
 |a::b::l=>Nat.ble a b&&Hc (b::l)
def eR(b:List UInt8):List Nat×Nat:=
 if b.length<2 then([],3)else if(b.getD 0 0).toNat=0\/16<(b.getD 0 0).toNat\/(b.getD 1 0).toNat≠0 then([],4)else if b.length<2+2*(b.getD 0 0).toNat then([],3)
 else
  let l:=(List.range (b.getD 0 0).toNat).map λi=>kE b (2+2*i)
  if Hc l=false then([],4)else if b.length-2-2*(b.getD 0 0).toNat<l.getLastD 0 then([],3)else if l.getLastD 0<b.length-2-2*(b.getD 0 0).toNat\/480<b.length then([],4)else(l,0)
def aP(b:List UInt8):List (List UInt8)×Nat:=if(eR b).2=0 then(iV (b.drop (2+2*(eR b).1.length)) 0 (eR b).1,0)else([],(eR b).2)
def kW(a:Nat)(m:Mm):Option Unit:=if a=0 then some ()else(fc a m).bind λ_=>some ()
def mM(a typ:Nat)(m:Mm):Option Nat:=(iy a m).bind λh=>some (sG h typ)
def oI(a typ:Nat)(m:Mm):Option Nat:=(kW a m).bind λ_=>(mM a typ m).bind λh=>eN h (jV a typ h m) m
def kX(a name typ en:Nat)(p:List UInt8)(m:Mm):Option Mm:=
 if(aP p).2≠0 then none else(kW name m).bind λ_=>(fG a (bD p.length).1 m).bind λ_=>(oI name typ m).bind λr=>if r≠0 then none else(mM name typ m).bind λh=>
  (gk a {tag:=1,Ft:=(bD p.length).1,name:=name,FB:=en,typ:=typ,size:=p.length,hash:=h} m).bind λm1=>(cV (a+32) 5 p m1).bind λm2=>(iw a m2).bind λm3=>ji a m3
def qV(a:Nat)(m:Mm):Option Mm:=(eD 1 a m).bind λb=>(lO a m).bind λm1=>(fa a m1).bind λm2=>(jf a m2).bind λm3=>fH b.name m3
def wA(a:Nat)(m:Mm):Option (List UInt8):=(eD 1 a m).bind λb=>dC (a+32) b.size 5 m
structure It where
 name:List (List UInt8)
 typ:Nat
 recs:List (List UInt8)
 FB:Nat
 used:Nat
def sQ(a:Nat)(m:Mm):Option It:=(eD 1 a m).bind λb=>(mL b.name m).bind λls=>if aI ls≠0 then none else(dC (a+32) b.size 5 m).bind λp=>if(aP p).2≠0 then none else some ⟨ls,b.typ,(aP p).1,b.FB,b.used⟩
def tT(a u:Nat)(m:Mm):Option Mm:=(eD 1 a m).bind λb=>gk a {b with used:=u} m
def sR(a:Nat)(m:Mm):Option Nat:=(eD 1 a m).bind λb=>some b.used
def Bb(a:Nat)(m:Mm):Option Nat:=(eD 1 a m).bind λb=>some b.FB
def fe(a b Ga:Nat):Nat:=min a Ga+min b (Ga-min a Ga)
def oJ(now Gv:Nat):Nat:=if Gv=0 then 0 else fe now Gv 9223372036854775808
def bM(now e:Nat):Bool:= !Nat.beq e 0&&Nat.ble e now
def Bc(n:Nat)(m:Mm):Option Mm:=(m.root 16).bind λa=>m.FG 16 (fe a n 4611686018427387904)
def kM(a:Nat)(m:Mm):Option Bool:=(m.root 16).bind λn=>(Bb a m).bind λe=>some (bM n e)
def Ge:List (Nat×Bool)->Nat
 | []=>0
 |q::l=>if q.1=1/\q.2=false then Ge l+1 else 0
def cB(l:List (Nat×Bool)):Nat:=if Ge l=l.length then 0 else Ge l
def gp(m:Mm):List Nat->Option (List Nat)
 | []=>some []
 |a::l=>(da a m).bind λq=>(gp m l).bind λr=>some (if q.2=0/\q.1.tag≠0 then a::r else r)
def dG(m:Mm):Nat->Nat->Option (List Nat)
 |_,0=>some []
 |s,k+1=>(dR s m).bind λx=>(if x.live=0 then some []else(kJ s m).bind (gp m)).bind λl=>(dG m (s+1) k).bind λr=>some (l++r)
def sS(m:Mm):Option (List Nat):=dG m 0 m.Fq
def jY(m:Mm)(a:Nat):List Nat->Option (List Nat)
 | []=>some []
 |x::l=>(im x 4 m).bind λn=>(jY m a l).bind λr=>some (if n=a then x::r else r)
def iA(a:Nat)(m:Mm):Option (List Nat):=(sS m).bind (jY m a)
def iB(aaf:Nat):List Nat->Mm->Option Mm
 | [],m=>some m
 |x::l,m=>(bE x 4 aaf m).bind (iB aaf l)
def oK(fr aaf:Nat)(m:Mm):Option Mm:=
 (da fr m).bind λq=>if q.2≠0\/q.1.tag=0 then none else(fG aaf q.1.Ft m).bind λ_=>(dC fr (ae q.1.Ft) 5 m).bind λp=>(cV aaf 5 p m).bind λm1=>
  (if q.1.tag=2 then(iA fr m1).bind λl=>iB aaf l m1 else some m1).bind λm2=>(jW fr aaf m2).bind λm3=>(if q.1.tag=1 then jk fr aaf m3 else some m3).bind λm4=>jf fr m4
def jn(m:Mm):Nat->Nat->Option (List Sl)
 |_,0=>some []
 |s,k+1=>(dR s m).bind λx=>(jn m (s+1) k).bind λl=>some (x::l)
def aR(x:Sl):Nat:=ai x.Ft-x.live
def bO(l:List Sl)(c:Nat):Nat:=(l.map λx=>if x.Ft=c then aR x else 0).sum
def iW(all:List Sl):Nat->List Sl->Option (Nat×Nat)->Option (Nat×Nat)
 |_,[],b=>b
 |s,x::l,b=>iW all (s+1) l (if x.Ft=0\/bO all x.Ft-aR x<x.live then b else match b with
   |none=>some (s,x.live)
   |some q=>if x.live<q.2 then some (s,x.live)else some q)
def kY(m:Mm):List Nat->Option Unit
 | []=>some ()
 |a::l=>(eZ a m).bind λ_=>kY m l
def qW(l:List Sl):Bool:=l.all λx=>Nat.ble x.Ft 9&&Nat.ble x.live (ai x.Ft)
def og(m:Mm):Option (Option Nat):=(jn m 0 m.Fq).bind λl=>if qW l=false then none else match iW l 0 l none with
 |none=>some none
 |some q=>(kJ q.1 m).bind λa=>(kY m a).bind λ_=>some (some q.1)
def sT(s c:Nat)(m:Mm):Option (Nat×Mm):=(dR s m).bind λx=>if ai x.Ft<x.live then none else if aR x=0 then(dd c m).bind λq=>if q.1.2≠0 then none else some (q.1.1,q.2)
 else(oG c s m).bind λm1=>(dd c m1).bind λq=>if q.1.2≠0 then none else(oF c s q.2).bind λm2=>some (q.1.1,m2)
def iC(s c:Nat):List Nat->Mm->Option (List (Nat×Nat)×Mm)
 | [],m=>some ([],m)
 |a::l,m=>(sT s c m).bind λq=>(oK a q.1 q.2).bind λm1=>(iC s c l m1).bind λr=>some ((a,q.1)::r.1,r.2)
def gV(m:Mm):Option (Option (List (Nat×Nat))×Mm):=(og m).bind λr=>match r with
 |none=>some (none,m)
 |some s=>(dR s m).bind λx=>(kJ s m).bind λl=>(iC s x.Ft l m).bind λq=>(q.2.root 20).bind λn=>(q.2.FG 20 (n+q.1.length)).bind λm1=>some (some q.1,m1)
def bj(l:List (Nat×Nat))(a:Nat):Nat:=l.foldl (λa p=>if p.1=a then p.2 else a) a
abbrev Ky:=List (List UInt8)×Nat
def qX(m:Mm):List Nat->Option (List (Nat×Bool))
 | []=>some []
 |a::l=>(sR a m).bind λu=>(kM a m).bind λo=>(qX m l).bind λr=>some ((u,o)::r)
def J4:List Nat->Nat->Mm->Option Mm
 | [],_,m=>some m
 |_,0,m=>some m
 |a::l,k+1,m=>(tT a 0 m).bind (J4 l k)
def kZ(f:Nat):Nat->Mm->Option Mm
 |0,m=>some m
 |k+1,m=>(Vx f m).bind λq=>kZ f k q.2
def tU(a:Nat)(m:Mm):Option (Ky×Mm):=
 (kM a m).bind λo=>(bK (if o=true then 19 else 18) m).bind λm1=>(sQ a m1).bind λx=>(qV a m1).bind λm2=>some ((x.name,x.typ),m2)
structure Gt where
 at_:Nat:=0
 gone:List Ky:= []
 over:Nat:=0
 F2:List (Nat×Nat):= []
def JB:Nat->Mm->Option (List Nat×Mm)
 |0,m=>some ([],m)
 |k+1,m=>(Vx 14 m).bind λq=>(JB k q.2).bind λr=>some (q.1::r.1,r.2)
def Je:List Nat->Mm->Option (List Ky×Mm)
 | [],m=>some ([],m)
 |a::l,m=>(kM a m).bind λo=>if o=true then(tU a m).bind λq=>(Je l q.2).bind λr=>some (q.1::r.1,r.2)else Je l m
def iD(Ga:Nat)(m:Mm):Option (List Ky×Mm):=(m.root 15).bind λn=>(JB (min Ga n) m).bind λq=>Je q.1 q.2
def mN(ls:List (List UInt8))(typ:Nat)(m:Mm):Option Nat:=(kV ls m).bind λq=>if q.2<ls.length then some 0 else oI q.1 typ m
def qY(a:Nat)(m:Mm):Option Mm:=(kM a m).bind λo=>(if o=true then bK 19 m else some m).bind λm1=>qV a m1
structure Pw where
 GB:Nat
 gone:List Ky
def dX(TU:Bool)(name:List UInt8)(typ:Nat)(m:Mm):Option ((Nat×Int)×Mm):=
 if(aC name).2≠0 then some ((0,(aC name).2),m)else(mN (aC name).1 typ m).bind λa=>if a=0 then some ((0,7),m)
  else(kM a m).bind λo=>if o=true then(if TU=true then some m else qY a m).bind λm1=>some ((0,7),m1)else some ((a,0),m)
def oL(TU:Bool)(name:List UInt8)(typ:Nat)(m:Mm):Option ((Nat×Int)×Mm):=(dX TU name typ m).bind λq=>if q.1.2≠0 then some q else(tT q.1.1 1 q.2).bind λm1=>some (q.1,m1)
def eS(TU:Bool)(name:List UInt8)(typ:Nat)(m:Mm):Option ((List (List UInt8)×Int)×Mm):=
 (oL TU name typ m).bind λq=>if q.1.2≠0 then some (([],q.1.2),q.2)else(wA q.1.1 q.2).bind λp=>if(aP p).2≠0 then none else some (((aP p).1,0),q.2)
def jo(name:List UInt8)(typ:Nat)(m:Mm):Option (Int×Mm):=(dX false name typ m).bind λq=>if q.1.2≠0 then some (q.1.2,q.2)else(qV q.1.1 q.2).bind λm1=>some (0,m1)
def gI(n:Nat)(m:Mm):Option (List Ky×Mm):=(Bc n m).bind λm1=>iD 4 m1
end Go.FC
namespace Go.Proofs.YtifkphcaelafjaaGreatDoor
open Tryz
open Go.RowKit Go.Colm Go.FC Go.Maps
theorem Dp(d:Nat)(x y:Int)(W:World):(Op.equalIn (d+2) 308 (.agg #[.int .i64 x,.int .i64 y]) (.agg #[.int .i64 0,.int .i64 0])).run prog W= .ok (x==0&&y==0) W:=by
 have h0:(prog.info? 3).isSome=true:=by kernel_rfl
 obtain⟨i,hi⟩:=Option.isSome_iff_exists.1 h0;have hc:prog.cellsOf 3=1:=by kernel_rfl
 rw[run_equalIn_array W (d+1) _ _ underlying308 hi,hc];by_cases hx:x=0
 ·by_cases hy:y=0
  ·subst hx;subst hy;simp[Op.eqItems,List.range,List.range.loop,go_sem,part,run_underlying underlying3]
  ·subst hx;simp[Op.eqItems,List.range,List.range.loop,go_sem,part,run_underlying underlying3,hy]
 ·simp[Op.eqItems,List.range,List.range.loop,go_sem,part,run_underlying underlying3,hx]
@[go_sem] theorem EY(x y:Int)(W:World):(Op.equalIn 10000 308 (.agg #[.int .i64 x,.int .i64 y]) (.agg #[.int .i64 0,.int .i64 0])).run prog W= .ok (x==0&&y==0) W:=Dp 9998 x y W
section
variable{O:av}{μ:Mm}{w:World}
theorem lQ(t:Nat)(w:World):Calls prog 272 #[.int .i64 (t:Int)] w λe w'=>e= .returned (.bool (decide (t<=2)))/\w'=w:=by
 go_in;go_wp2;go_ret;exact⟨aq (by simp;omega),rfl⟩
theorem jZ{t f:Nat}(h:2<t):FO t f=(0,0):=by
 have:Nw.getD t []= []:=by
  rw[List.getD_eq_getElem?_getD,List.getElem?_eq_none (by simp[Nw];omega)];rfl
 rw[FO,this];simp
theorem Dq{t f:Nat}(h:t<=2)(hf:f<5):FO t f=(QF.getD (f*2) 0,QF.getD (f*2+1) 0):=by
 have:∀t,t<3->∀f,f<5->FO t f=(QF.getD (f*2) 0,QF.getD (f*2+1) 0):=by decide
 exact this t (by omega) f hf
theorem Dr{f:Nat}(h5:5<=f)(hf:f<11):FO 1 f=(QH.getD ((f-5)*2) 0,QH.getD ((f-5)*2+1) 0):=by
 have:∀f,f<11->5<=f->FO 1 f=(QH.getD ((f-5)*2) 0,QH.getD ((f-5)*2+1) 0):=by decide
 exact this f hf h5
theorem wB{t f:Nat}(h5:5<=f)(hf:f<12)(h1:t=1->f=11)(h2:t=2->f≠10/\f≠11):FO t f=(0,0):=by
 rcases Nat.lt_or_ge 2 t with h|h
 ·exact jZ h
 ·have:∀t,t<3->∀f,f<12->(decide (f<5)||(t==1&&f !=11)||(t==2&&(f==10||f==11))||(FO t f==(0,0)))=true:=by decide
  have h3:=this t (by omega) f hf;simp only [Bool.or_eq_true,Bool.and_eq_true,decide_eq_true_eq,beq_iff_eq,bne_iff_ne]at h3;rcases h3 with((h3|h3)|h3)|h3
  ·omega
  ·exact absurd (h1 h3.1) h3.2
  ·have:=h2 h3.1;omega
  ·exact h3
theorem oM(t f:Nat):(FO t f).1<=28/\(FO t f).2<=8:=by
 rcases Nat.lt_or_ge 2 t with h|h
 ·rw[jZ h];decide
 ·rcases Nat.lt_or_ge f 12 with hf|hf
  ·have:∀t,t<3->∀f,f<12->(FO t f).1<=28/\(FO t f).2<=8:=by decide
   exact this t (by omega) f hf
  ·have h0:FO t f=(0,0):=by
    have:∀t,t<3->(Nw.getD t []).length<=12:=by decide
    rw[FO,List.getD_eq_getElem?_getD,List.getElem?_eq_none (by have:=this t (by omega);omega)];rfl
   rw[h0];decide
theorem dx(t f:Nat)(w:World)(he:eB w)(hf:f<12):Calls prog 265 #[.int .i64 (t:Int),.int .i64 (f:Int)] w λe w'=>e= .returned (.agg #[.int .i64 ((FO t f).1:Nat),.int .i64 ((FO t f).2:Nat)])/\Below w.heap.size w w':=by
 obtain⟨w0,Fx⟩:=Fp (w.alloc (.cells #[.int .i64 0,.int .i64 0] 308));have FM:Below w.heap.size w w0:=by rw[Fx];exact(Below.refl _ w).alloc (Fm _) _
 have Gd:Whole w0 w.heap.size 308 #[.int .i64 0,.int .i64 0]:=by rw[Fx];exact Whole.new w _ _
 have h0:=he.below FM;have n0:=h0.hn 0 (by omega);have n1:=h0.hn 1 (by omega);have x0:=Gd.cell 0;have x1:=Gd.cell 1;simp only [List.getElem?_toArray,List.getElem?_cons_zero,List.getElem?_cons_succ]at x0 x1;have f0:=Gd.frozen 0;have f1:=Gd.frozen 1;have GW:=Fh FM;have Jd:=Fh Gd;have HE:=Fh h0;have Pn:Hid (∀x y:Value,Below w.heap.size w ((w0.setCell ⟨w.heap.size,0,none⟩ x).setCell ⟨w.heap.size,1,none⟩ y)):=Fh λx y=>aa.F1 (S:=λk=>k=w.heap.size) ((((aa.below GW.o (λk=>k=w.heap.size))).setCell (p:=⟨w.heap.size,0,none⟩) (.inl rfl) _).setCell (p:=⟨w.heap.size,1,none⟩) (.inl rfl) _) (Fm _) (λi hi e=>by omega);clear h0 FM Gd he;go_in;go_upto_region 1 with fail;rw[<-Fx];clear Fx;go_wp2_with fail;refine(lQ _ _).mono ?_;rintro e w1⟨rfl,rfl⟩;by_cases h2:t<=2
 ·by_cases h5:f<5
  ·have c0:=HE.o.hc (f*2) (by omega);have c1:=HE.o.hc (f*2+1) (by omega);have HV:=Fh (Dq h2 h5);obtain⟨u,hu⟩:=Fp (QF.getD (f*2) 0);obtain⟨v,hv⟩:=Fp (QF.getD (f*2+1) 0);rw[<-hu]at c0 HV;rw[<-hv]at c1 HV;clear hu hv;go_wp2_with fail;refine bodyPost_ret (results_cell_row rfl _ _ w.heap.size 308 _ (0,0) _ rfl (bY Jd.o _ _) underlying308 rfl (by kernel_rfl)) rfl ?_;rw[HV.o];exact⟨rfl,Pn.o _ _⟩
  ·by_cases h1:t=1
   ·subst h1;by_cases h11:f<11
    ·obtain⟨g,hg⟩:=Fp (f-5);have c0:=HE.o.ho ((f-5)*2) (by omega);have c1:=HE.o.ho ((f-5)*2+1) (by omega);have HV:=Fh (Dr (f:=f) (by omega) h11);rw[<-hg]at c0 c1 HV;obtain⟨u,hu⟩:=Fp (QH.getD (g*2) 0);obtain⟨v,hv⟩:=Fp (QH.getD (g*2+1) 0);rw[<-hu]at c0 HV;rw[<-hv]at c1 HV;have ef:(f:Int)-5=(g:Int):=by omega
     have Hm:g<6:=by omega
     clear hu hv hg;go_wp2_with fail;refine bodyPost_ret (results_cell_row rfl _ _ w.heap.size 308 _ (0,0) _ rfl (bY Jd.o _ _) underlying308 rfl (by kernel_rfl)) rfl ?_;rw[HV.o];exact⟨rfl,Pn.o _ _⟩
    ·have HV:=Fh (wB (t:=1) (f:=f) (by omega) hf (by omega) (by omega));go_wp2_with fail;refine bodyPost_ret (results_cell_row rfl _ _ w.heap.size 308 _ (0,0) _ rfl (bY Jd.o _ _) underlying308 rfl (by kernel_rfl)) rfl ?_;rw[HV.o];exact⟨rfl,Pn.o _ _⟩
   ·have t1:((t:Int)==1)=false:=by rw[Fo];omega
    by_cases h22:t=2
    ·subst h22;by_cases h11:f=11
     ·subst h11;go_wp2_with fail;refine bodyPost_ret (results_cell_row rfl _ _ w.heap.size 308 _ (0,0) _ rfl (bY Jd.o _ _) underlying308 rfl (by kernel_rfl)) rfl ?_;exact⟨rfl,Pn.o _ _⟩
     ·have f11:((f:Int)==11)=false:=by rw[Fo];omega
      by_cases Ta:f=10
      ·subst Ta;go_wp2_with fail;refine bodyPost_ret (results_cell_row rfl _ _ w.heap.size 308 _ (0,0) _ rfl (bY Jd.o _ _) underlying308 rfl (by kernel_rfl)) rfl ?_;exact⟨rfl,Pn.o _ _⟩
      ·have f10:((f:Int)==10)=false:=by rw[Fo];omega
       have HV:=Fh (wB (t:=2) (f:=f) (by omega) hf (by omega) (by omega));go_wp2_with fail;refine bodyPost_ret (results_cell_row rfl _ _ w.heap.size 308 _ (0,0) _ rfl (bY Jd.o _ _) underlying308 rfl (by kernel_rfl)) rfl ?_;rw[HV.o];exact⟨rfl,Pn.o _ _⟩
    ·have t2:((t:Int)==2)=false:=by rw[Fo];omega
     have HV:=Fh (wB (t:=t) (f:=f) (by omega) hf (by omega) (by omega));go_wp2_with fail;refine bodyPost_ret (results_cell_row rfl _ _ w.heap.size 308 _ (0,0) _ rfl (bY Jd.o _ _) underlying308 rfl (by kernel_rfl)) rfl ?_;rw[HV.o];exact⟨rfl,Pn.o _ _⟩
 ·have HV:=Fh (jZ (t:=t) (f:=f) (by omega));go_wp2_with fail;refine bodyPost_ret (results_cell_row rfl _ _ w.heap.size 308 _ (0,0) _ rfl (bY Jd.o _ _) underlying308 rfl (by kernel_rfl)) rfl ?_;rw[HV.o];exact⟨rfl,Pn.o _ _⟩
end
end Go.Proofs.YtifkphcaelafjaaGreatDoor
namespace Go.Colm
section
variable{P:Program}{ops:Array Oper}{Q:Exit->Act->World->Prop}{md:Region.Mode}
def cw(vs:Nat->Value):Nat->List Oper->Act->Act
 |_,[],a=>a
 |i,o::r,a=>cw vs (i+1) r (a.put o.dst (vs i))
theorem tV(a:Act)(d:Option Tmp)(v:Value):(a.put d v).defers=a.defers:=by cases d<;>rfl
theorem tW(a:Act)(d:Option Tmp)(v:Value):(a.put d v).tmps.size=a.tmps.size:=by cases d<;>simp[Act.put]
theorem tX(a:Act)(d:Tmp)(v:Value)(h:d<a.tmps.size):(a.put (some d) v).tmps[d]? =some v:=by simp[Act.put,h]
theorem mO(a:Act)(d:Option Tmp)(v:Value)(t:Tmp)(h:d≠some t):(a.put d v).tmps[t]? =a.tmps[t]? :=by
 cases d with
 |none=>rfl
 |some d=>
  have hd:d≠t:=λe=>h (by rw[e]);simp[Act.put,Array.getElem?_setIfInBounds_ne hd]
theorem nM(vs:Nat->Value):∀(l:List Oper) (i:Nat) (a:Act),(cw vs i l a).defers=a.defers
 | [],_,_=>rfl
 |o::r,i,a=>by rw[cw,nM vs r,tV]
theorem iE(vs:Nat->Value)(t:Tmp):∀(l:List Oper) (i:Nat) (a:Act),(∀o∈l,o.dst≠some t)->(cw vs i l a).tmps[t]? =a.tmps[t]?
 | [],_,_,_=>rfl
 |o::r,i,a,h=>by rw[cw,iE vs t r _ _ (λo ho=>h o (by simp[ho])),mO _ _ _ _ (h o (by simp))]
theorem qZ(vs:Nat->Value)(t:Tmp):∀(l:List Oper) (i k:Nat) (a:Act) (o:Oper),l[k]? =some o->o.dst=some t->(∀j o',l[j]? =some o'->o'.dst=some t->j=k)->t<a.tmps.size->(cw vs i l a).tmps[t]? =some (vs (i+k))
 | [],i,k,a,o,h,_,_,_=>by simp at h
 |x::r,i,0,a,o,h,hd,hu,ht=>by
  obtain rfl:x=o:=by simpa using h
  rw[cw,iE vs t r,hd,tX _ _ _ ht]
  ·simp
  ·intro o' O1 e;obtain⟨j,hj⟩:=List.mem_iff_getElem?.1 O1;have:=hu (j+1) o' (by simpa using hj) e;omega
 |x::r,i,k+1,a,o,h,hd,hu,ht=>by
  rw[cw,qZ vs t r (i+1) k _ o (by simpa using h) hd (λj o' hj e=>by have:=hu (j+1) o' (by simpa using hj) e;omega) (by rw[tW];exact ht)];rw[show i+1+k=i+(k+1)by omega]
def lR(ops:Array Oper)(n:Nat):Prop:=∀(i j:Nat) (oi oj:Oper) (t:Tmp),ops[i]? =some oi->ops[j]? =some oj->oi.dst=some t->oj.dst=some t->i=j/\t<n
structure eE(md:Region.Mode)(ops:Array Oper)(a0:Act)(F:Nat->Value->World->Prop)(L:Array Bool)(a:Act)(w:World):Prop where
 closed:∀(j:Nat) (o:Oper),ops[j]? =some o->L.getD j false=true->∀e∈o.after,Region.binds md e=true->L.getD e.on false=true
 defs:a.defers=a0.defers
 size:a.tmps.size=a0.tmps.size
 other:∀t,(∀j o,ops[j]? =some o->o.dst=some t->L.getD j false=false)->a.tmps[t]? =a0.tmps[t]?
 done:∀j o,ops[j]? =some o->L.getD j false=true->∃v,(∀t,o.dst=some t->a.tmps[t]? =some v)/\F j v w
theorem lS(L:Array Bool)(i j:Nat)(h:i<L.size):(L.setIfInBounds i true).getD j false=(decide (i=j)||L.getD j false):=by
 by_cases e:i=j
 ·subst e;simp[h]
 ·simp[Array.getElem?_setIfInBounds_ne e,e]
theorem eE.step{a0:Act}{F:Nat->Value->World->Prop}{L:Array Bool}{a:Act}{w w':World}{i:Nat}{o:Oper}{v:Value}(h:eE md ops a0 F L a w)(LR:lR ops a0.tmps.size)(ho:ops[i]? =some o)(hi:i<L.size)
  (hk:∀j u,F j u w->F j u w') (hv:F i v w') (hp:∀e∈o.after,Region.binds md e=true->L.getD e.on false=true):eE md ops a0 F (L.setIfInBounds i true) (a.put o.dst v) w':=by
 refine⟨λj oj hj hL e he hb=> ?_,by rw[tV];exact h.defs,by rw[tW];exact h.size,λt ht=> ?_,λj oj hj hL=> ?_⟩
 ·rw[lS _ _ _ hi]at hL⊢;by_cases e2:i=j
  ·subst e2;obtain rfl:o=oj:=by rw[ho]at hj;exact Fk hj
   rw[hp e he hb,Bool.or_true]
  ·rw[h.closed j oj hj (by simpa[e2]using hL) e he hb,Bool.or_true]
 ·rw[mO]
  ·refine h.other t λj oj hj hd=> ?_;have:=ht j oj hj hd;rw[lS _ _ _ hi]at this;simp at this;simpa using this.2
  ·intro e;have:=ht i o ho e;rw[lS _ _ _ hi]at this;simp at this
 ·rw[lS _ _ _ hi]at hL;by_cases e:i=j
  ·subst e;obtain rfl:o=oj:=by rw[ho]at hj;exact Fk hj
   refine⟨v,λt ht=> ?_,hv⟩;rw[ht];exact tX _ _ _ (by rw[h.size];exact(LR i i o o t ho ho ht ht).2)
  ·obtain⟨u,hu,hf⟩:=h.done j oj hj (by simpa[e]using hL);refine⟨u,λt ht=> ?_,hk _ _ hf⟩;rw[mO]
   ·exact hu t ht
   ·intro e2;exact e (LR i j o oj t ho hj e2 ht).1
theorem eE.close{a0:Act}{F:Nat->Value->World->Prop}{L:Array Bool}{a:Act}{w:World}(h:eE md ops a0 F L a w)(LR:lR ops a0.tmps.size)(hall:∀j,j<ops.size->L.getD j false=true):
  ∃vs:Nat->Value,(∀j,j<ops.size->F j (vs j) w)/\a=cw vs 0 ops.toList a0:=by
 have hex:∀j:Nat,∃v,∀o:Oper,ops[j]? =some o->(∀t,o.dst=some t->a.tmps[t]? =some v)/\F j v w:=λj=>by
  cases hj:ops[j]? with
  |none=>exact⟨undef,λo e=>by cases e⟩
  |some o=>
   obtain⟨v,h1,h2⟩:=h.done j o hj (hall j (Array.getElem?_eq_some_iff.1 hj).1);exact⟨v,λo' e=>by cases e;exact⟨h1,h2⟩⟩
 obtain⟨vs,hvs⟩:∃vs:Nat->Value,∀j o,ops[j]? =some o->(∀t,o.dst=some t->a.tmps[t]? =some (vs j))/\F j (vs j) w:=⟨λj=>Classical.choose (hex j),λj=>Classical.choose_spec (hex j)⟩;refine⟨vs,λj hj=>(hvs j _ (Array.getElem?_eq_getElem hj)).2,?_⟩;clear hex;obtain⟨tm,df⟩:=a;have hd:=h.defs;have hs:=h.size;dsimp only at hd hs;have e1:(cw vs 0 ops.toList a0).defers=df:=by rw[nM,hd]
 have e2:(cw vs 0 ops.toList a0).tmps=tm:=by
  apply Array.ext_getElem?;intro t;by_cases hw:∃(j:Nat) (o:Oper),ops[j]? =some o/\o.dst=some t
  ·obtain⟨j,o,hj,ht⟩:=hw;rw[qZ _ t ops.toList 0 j a0 o (by simpa using hj) ht (λk o' hk e=>(LR k j o' o t (by simpa using hk) hj e ht).1) (LR j j o o t hj hj ht ht).2];rw[Nat.zero_add];exact((hvs j o hj).1 t ht).symm
  ·rw[iE]
   ·refine(h.other t λj o hj ht=>absurd ⟨j,o,hj,ht⟩ hw).symm
   ·intro o ho e;obtain⟨j,hj⟩:=List.mem_iff_getElem?.1 ho;exact hw ⟨j,o,by simpa using hj,e⟩
 rw[<-e1,<-e2]
theorem tY{a0:Act}{F:Nat->Value->World->Prop}{R:World->World->Prop}(LR:lR ops a0.tmps.size)(Mz:∀(i:Nat) (o:Oper),ops[i]? =some o->∀e∈o.after,e.on<i)
  (MA:∀a b c,R a b->R b c->R a c) (Po:∀j u w w',R w w'->F j u w->F j u w') {w0:World}
  (JC:∀(i:Nat) (o:Oper),ops[i]? =some o->∀(L:Array Bool) (a:Act) (w:World),eE md ops a0 F L a w->L.getD i false=false->(∀e∈o.after,Region.binds md e=true->L.getD e.on false=true)->R w0 w->
   wpOp P ops Q i (λa' w'=>∃v,a'=a.put o.dst v/\F i v w'/\R w w') a w)
  (Ny:∀vs w,(∀j,j<ops.size->F j (vs j) w)->R w0 w->Q .normal (cw vs 0 ops.toList a0) w):
  ∀(fuel:Nat) (L:Array Bool) (a:Act) (w:World),L.size=ops.size->(L.toList.count false<=fuel)->eE md ops a0 F L a w->R w0 w->wpAny P md ops Q fuel L a w:=by
 have YI:∀L:Array Bool,L.size=ops.size->Region.ready md ops L= []->∀j,j<ops.size->L.getD j false=true:=by
  intro L hL hr j
  induction j using Nat.strongRecOn with
  |ind j ih=>
   intro hj;cases hd:L.getD j false with
   |true=>rfl
   |false=>
    have K0:j<L.size:=by omega
    have:j∈Region.ready md ops L:=mem_ready.2 ⟨by simp[K0]at hd⊢;exact hd,ops[j],Array.getElem?_eq_getElem hj,λe he _=>by
     have h1:=Mz j _ (Array.getElem?_eq_getElem hj) e he;exact ih e.on h1 (by omega)⟩
    rw[hr]at this;cases this
 have hfin:∀(L:Array Bool) (a:Act) (w:World),L.size=ops.size->eE md ops a0 F L a w->R w0 w->Region.ready md ops L= []->Q .normal a w:=λL a w hL hm hw hr=>by
  obtain⟨vs,h1,rfl⟩:=hm.close LR (YI L hL hr);exact Ny vs w h1 hw
 intro fuel
 induction fuel with
 |zero=>
  intro L a w hL hc hm hw;have hr:Region.ready md ops L= []:=by
   rw[List.eq_nil_iff_forall_not_mem];intro j hj;obtain⟨h1,o,ho,_⟩:=mem_ready.1 hj;have K0:j<L.size:=by rw[hL];exact(Array.getElem?_eq_some_iff.1 ho).1
   have:false∈L.toList:=by
    simp[K0]at h1;rw[<-h1];exact Array.getElem_mem_toList K0
   have:=List.count_pos_iff.2 this;omega
  exact⟨hr,hfin L a w hL hm hw hr⟩
 |succ fuel ih=>
  intro L a w hL hc hm hw;refine⟨hfin L a w hL hm hw,λi hi=> ?_⟩;obtain⟨h1,o,ho,h2⟩:=mem_ready.1 hi;have RD:i<L.size:=by rw[hL];exact(Array.getElem?_eq_some_iff.1 ho).1
  refine wpOp_mono ?_ (JC i o ho L a w hm (by simpa[RD]using h1) h2 hw);rintro a' w'⟨v,rfl,hf,hr⟩;refine ih _ _ _ (by simpa using hL) ?_ (hm.step LR ho RD (λj u=>Po j u w w' hr) hf h2) (MA _ _ _ hw hr);have h3:L[i]=false:=by simpa[RD]using h1
  rw[Array.toList_setIfInBounds];have h4:=List.count_set (l:=L.toList) (i:=i) (a:=true) (b:=false) (by simpa using RD);have h5:(L.toList[i]'(by simpa using RD)==false)=true:=by simpa using h3
  have h6:0<L.toList.count false:=List.count_pos_iff.2 (by
   have h7:L.toList[i]'(by simpa using RD)=false:=by simpa using h3
   rw[<-h7];exact List.getElem_mem _)
  rw[h4,if_pos h5,if_neg (by decide)];omega
def tZ(ops:Array Oper)(n:Nat):Bool:=(List.range ops.size).all λi=>match(ops[i]?).bind (·.dst)with
 |none=>true
 |some t=>decide (t<n)&&(List.range ops.size).all λj=>decide (i=j)|| !((ops[j]?).bind (·.dst)==some t)
theorem wD{ops:Array Oper}{n:Nat}(h:tZ ops n=true):lR ops n:=λi j oi oj t hi hj hdi hdj=>by
 have li:=(Array.getElem?_eq_some_iff.1 hi).1;have lj:=(Array.getElem?_eq_some_iff.1 hj).1;have h1:=List.all_eq_true.1 h i (List.mem_range.2 li);rw[hi]at h1;simp only [Fj,hdi,Bool.and_eq_true,decide_eq_true_eq]at h1;have h2:=List.all_eq_true.1 h1.2 j (List.mem_range.2 lj);rw[hj]at h2;simp only [Fj,hdj,beq_self_eq_true,Bool.not_true,Bool.or_false,decide_eq_true_eq]at h2;exact⟨h2,h1.1⟩
def Bd(ops:Array Oper):Bool:=(List.range ops.size).all λi=>match ops[i]? with
 |none=>true
 |some o=>o.after.toList.all λe=>decide (e.on<i)
theorem Be{ops:Array Oper}(h:Bd ops=true):∀(i:Nat) (o:Oper),ops[i]? =some o->∀e∈o.after,e.on<i:=λi o hi e he=>by
 have li:=(Array.getElem?_eq_some_iff.1 hi).1;have h1:=List.all_eq_true.1 h i (List.mem_range.2 li);rw[hi]at h1;simpa using List.all_eq_true.1 h1 e (by simpa using he)
def wE(P:Program)(ops:Array Oper)(Q:Exit->Act->World->Prop)(a0:Act)(w0:World)(F:Nat->Value->World->Prop)(R:World->World->Prop)(i:Nat)(o:Oper):Prop:=
 ∀(L:Array Bool) (a:Act) (w:World),eE .any ops a0 F L a w->L.getD i false=false->(∀e∈o.after,Region.binds .any e=true->L.getD e.on false=true)->R w0 w->
  ∀K:Act->World->Prop,(∀v w',F i v w'->R w w'->K (a.put o.dst v) w')->if Region.wanted o (yielded ops a.tmps)=true then Oper.wp P o a w K Q else K (a.put o.dst undef) w
def dH(P:Program)(ops:Array Oper)(Q:Exit->Act->World->Prop)(a0:Act)(w0:World)(F:Nat->Value->World->Prop)(R:World->World->Prop):Nat->List Oper->Prop
 |_,[]=>True
 |i,o::r=>wE P ops Q a0 w0 F R i o/\dH P ops Q a0 w0 F R (i+1) r
theorem dH.get{ops:Array Oper}{a0:Act}{w0:World}{F:Nat->Value->World->Prop}{R:World->World->Prop}:∀(l:List Oper) (i k:Nat) (o:Oper),dH P ops Q a0 w0 F R i l->l[k]? =some o->wE P ops Q a0 w0 F R (i+k) o
 | [],_,_,_,_,h=>by simp at h
 |x::r,i,0,o,h,e=>by
  obtain rfl:x=o:=by simpa using e
  exact h.1
 |x::r,i,k+1,o,h,e=>by
  have:=dH.get r (i+1) k o h.2 (by simpa using e)
  rwa [show i+1+k=i+(k+1)by omega]at this
def Ek(ops:Array Oper)(i:Nat)(t:Tmp):Bool:=(List.range ops.size).all λj=>match ops[j]? with
 |none=>true
 |some o=> !(o.dst==some t)||o.after.toList.any λe=>Region.binds .any e&&decide (e.on=i)
theorem eE.keep{ops:Array Oper}{a0:Act}{F:Nat->Value->World->Prop}{L:Array Bool}{a:Act}{w:World}(h:eE .any ops a0 F L a w){i:Nat}{t:Tmp}(hn:L.getD i false=false)(ht:Ek ops i t=true):a.eval (.tmp t)=a0.eval (.tmp t):=by
 have:=h.other t λj o hj hd=>by
  cases hL:L.getD j false with
  |false=>rfl
  |true=>
   have li:=(Array.getElem?_eq_some_iff.1 hj).1;have h1:=List.all_eq_true.1 ht j (List.mem_range.2 li);rw[hj]at h1;simp only [hd,beq_self_eq_true,Bool.not_true,Bool.false_or,List.any_eq_true]at h1;obtain⟨e,he,hb⟩:=h1;simp only [Bool.and_eq_true,decide_eq_true_eq]at hb;have h2:=h.closed j o hj hL e (by simpa using he) hb.1;rw[hb.2,hn]at h2;cases h2
 simp[Act.eval,Array.getD_eq_getD_getElem?,this]
theorem eE.Jo{ops:Array Oper}{a0:Act}{F:Nat->Value->World->Prop}{L:Array Bool}{a:Act}{w:World}(h:eE md ops a0 F L a w){j:Nat}{o:Oper}{t:Tmp}(hj:ops[j]? =some o)(hd:o.dst=some t)(hL:L.getD j false=true):
  ∃v,a.tmps[t]? =some v/\F j v w:=by
 obtain⟨v,h1,h2⟩:=h.done j o hj hL;exact⟨v,h1 t hd,h2⟩
theorem eE.IL{ops:Array Oper}{a0:Act}{F:Nat->Value->World->Prop}{L:Array Bool}{a:Act}{w:World}(h:eE .any ops a0 F L a w){i:Nat}{t:Tmp}(hn:L.getD i false=false)(ht:Ek ops i t=true):a.tmps[t]? =a0.tmps[t]? :=by
 refine h.other t λj o hj hd=> ?_;cases hL:L.getD j false with
 |false=>rfl
 |true=>
  have li:=(Array.getElem?_eq_some_iff.1 hj).1;have h1:=List.all_eq_true.1 ht j (List.mem_range.2 li);rw[hj]at h1;simp only [hd,beq_self_eq_true,Bool.not_true,Bool.false_or,List.any_eq_true]at h1;obtain⟨e,he,hb⟩:=h1;simp only [Bool.and_eq_true,decide_eq_true_eq]at hb;have h2:=h.closed j o hj hL e (by simpa using he) hb.1;rw[hb.2,hn]at h2;cases h2
theorem nY{id:Nat}{a0:Act}{w0:World}{F:Nat->Value->World->Prop}{R:World->World->Prop}(hm:P.follows .mixedOrders=true)(LR:lR ops a0.tmps.size)(Mz:∀(i:Nat) (o:Oper),ops[i]? =some o->∀e∈o.after,e.on<i)
  (TV:∀w,R w w) (MA:∀a b c,R a b->R b c->R a c) (Po:∀j u w w',R w w'->F j u w->F j u w')
  (JC:∀(i:Nat) (o:Oper),ops[i]? =some o->∀(L:Array Bool) (a:Act) (w:World),eE .any ops a0 F L a w->L.getD i false=false->(∀e∈o.after,Region.binds .any e=true->L.getD e.on false=true)->R w0.drew w->
   wpOp P ops Q i (λa' w'=>∃v,a'=a.put o.dst v/\F i v w'/\R w w') a w)
  (Ny:∀vs w,(∀j,j<ops.size->F j (vs j) w)->R w0.drew w->Q .normal (cw vs 0 ops.toList a0) w):(Code.region id ops true).wp P Q a0 w0:=
 wp_region_any hm (tY LR Mz MA Po JC Ny ops.size (Array.replicate ops.size false) a0 _ (by simp) (by simp) ⟨λj o ho hL=>by
  have:j<ops.size:=(Array.getElem?_eq_some_iff.1 ho).1;simp[this]at hL,rfl,rfl,λ_ _=>rfl,λj o ho hL=>by
  have:j<ops.size:=(Array.getElem?_eq_some_iff.1 ho).1;simp[this]at hL⟩ (TV _))
theorem dq{id:Nat}{a0:Act}{w0:World}(F:Nat->Value->World->Prop)(R:World->World->Prop)(hm:P.follows .mixedOrders=true){n:Nat}(hn:a0.tmps.size=n)(LR:tZ ops n=true)(Mz:Bd ops=true)
  (TV:∀w,R w w) (MA:∀a b c,R a b->R b c->R a c) (Po:∀j u w w',R w w'->F j u w->F j u w')
  (JC:dH P ops Q a0 w0.drew F R 0 ops.toList)
  (Ny:∀vs w,(∀j,j<ops.size->F j (vs j) w)->R w0.drew w->Q .normal (cw vs 0 ops.toList a0) w):(Code.region id ops true).wp P Q a0 w0:=
 nY hm (wD (by rw[hn];exact LR)) (Be Mz) TV MA Po (λi o ho L a w h1 h0 h2 h3=>by
  have hs:=dH.get ops.toList 0 i o JC (by simpa using ho);rw[Nat.zero_add]at hs;exact wpOp_step ho λK' hK=>hs L a w h1 h0 h2 h3 K' λv w' hf hr=>hK _ _ ⟨v,rfl,hf,hr⟩) Ny
theorem j3{ops:Array Oper}{a0:Act}{w0:World}{F:Nat->Value->World->Prop}{R:World->World->Prop}{i:Nat}:dH P ops Q a0 w0 F R i []:=trivial
theorem al{ops:Array Oper}{a0:Act}{w0:World}{F:Nat->Value->World->Prop}{R:World->World->Prop}{i:Nat}{o:Oper}{r:List Oper}(h:wE P ops Q a0 w0 F R i o)(h2:dH P ops Q a0 w0 F R (i+1) r):dH P ops Q a0 w0 F R i (o::r):=⟨h,h2⟩
theorem dg{o:Oper}{a:Act}{w w':World}{K:Act->World->Prop}{v:Value}(hg:o.guard=none)(Nz:(execOp a.eval o).run P w= .ok (.value v) w')(h:K (a.put o.dst v) w'):
  if Region.wanted o (yielded ops a.tmps)=true then Oper.wp P o a w K Q else K (a.put o.dst undef) w:=by
 rw[if_pos (by simp[Region.wanted,hg])];unfold Oper.wp;rw[Nz];exact h
theorem Bf{o:Oper}{a:Act}{w w':World}{K:Act->World->Prop}(hg:o.guard=none)(Nz:(execOp a.eval o).run P w= .ok .skip w')(h:K (a.put o.dst undef) w'):
  if Region.wanted o (yielded ops a.tmps)=true then Oper.wp P o a w K Q else K (a.put o.dst undef) w:=by
 rw[if_pos (by simp[Region.wanted,hg])];unfold Oper.wp;rw[Nz];exact h
theorem xQ{o:Oper}{a:Act}{w:World}{K:Act->World->Prop}(hg:o.guard=none)(f:FuncId)(args:Array Value)(Nz:(execOp a.eval o).run P w= .ok (.enter f args) w)(T:Value->World->Prop)
  (hc:Calls P f args w λe w'=>∃v,e= .returned v/\T v w') (h:∀v w',T v w'->K (a.put o.dst v) w'):
  if Region.wanted o (yielded ops a.tmps)=true then Oper.wp P o a w K Q else K (a.put o.dst undef) w:=by
 rw[if_pos (by simp[Region.wanted,hg])];unfold Oper.wp;rw[Nz,Oper.upon_enter];refine hc.mono λe w' hh=> ?_;obtain⟨v,rfl,ht⟩:=hh;exact h v w' ht
end
end Go.Colm
