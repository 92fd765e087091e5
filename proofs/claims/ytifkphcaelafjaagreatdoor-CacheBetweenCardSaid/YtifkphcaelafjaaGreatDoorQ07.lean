/-
  Lemmas on the way to the row. No condition beyond their own.
-/
import Derived.Test.YtifkphcaelafjaaGreatDoorQ06
set_option maxHeartbeats 25600000
set_option maxRecDepth 100000
set_option linter.unusedVariables false
set_option linter.unusedSimpArgs false
namespace Go.Proofs.YtifkphcaelafjaaGreatDoor
open Tryz
open Go.RowKit Go.Colm Go.FC Go.Maps
section
variable{O:av}{μ:Mm}{w:World}
structure RP(O:av)(μ:Mm)(w:World)(tb:Nat)(W:World):Prop where
 mg:MG O w μ W
 c0:W.cell? ⟨tb,0,none⟩=some (.pointer (some ⟨O.mb,0,none⟩))
 c1:W.cell? ⟨tb,1,none⟩=some (.int .i64 (μ.slots:Int))
theorem RP.below{tb:Nat}{W W2:World}(h:RP O μ w tb W)(k:Below W.heap.size W W2):RP O μ w tb W2:=⟨h.mg.below k,(k.cell (ap h.c0)).trans h.c0,(k.cell (ap h.c1)).trans h.c1⟩
set_option maxRecDepth 20000 in
theorem kl(h:ao O μ w)(a:Nat)(ha:a<4294967296)(hv:eZ a μ=some ()):Calls prog 184 #[du O.mb μ.slots,.int .i64 (a:Int)] w λe w'=>e= .returned (.int .i64 0)/\MG O w μ w':=by
 obtain⟨⟨b,er⟩,h1,hv⟩:=Fi hv;dsimp only at hv;have hc:er=0/\b.tag≠0:=by
  by_cases hc:er=0/\b.tag≠0
  ·exact hc
  ·rw[if_neg hc]at hv;cases hv
 obtain⟨rfl,ht⟩:=hc;have G5:=h.cf;have hz:((μ.slots:Int)==0)=false:=by rw[Fo];omega
 obtain⟨w0,Fx,FM,x0,x1⟩:=Sv O.mb μ.slots w;have FE:Hid (MG O w μ w0):=Fh ((MG.refl h).below FM);have Gn:=Fh (gy FE.o.has a b 0 ha h1);have t0:((b.tag:Int)==0)=false:=by rw[Fo];omega
 clear h FM hv h1 G5 ht;go_in;go_upto_region 1 with fail;rw[<-Fx];clear Fx;unfold G0 at Gn;go_wp2_with fail;refine Gn.o.mono ?_;rintro e w1⟨rfl,hg⟩;have FA:=Fh (FE.o.trans hg);clear hg;go_wp2;go_ret;exact⟨rfl,FA.o.alloc _⟩
theorem DC(a v:Nat)(w:World):Calls prog 279 #[.int .i64 (a:Int),.int .i64 (v:Int)] w λe w'=>e= .returned (.bool (Nat.beq v a))/\w'=w:=by
 go_in;go_wp2;go_ret;exact⟨aq (by rw[qD,Bool.eq_iff_iff];simp;omega),rfl⟩
set_option maxRecDepth 20000 in
theorem mV(h:ao O μ w)(a:Nat)(r:Option Nat)(ha:a<4294967296)(hv:iu a μ=some r):Calls prog 185 #[du O.mb μ.slots,.int .i64 (a:Int)] w λe w'=>e= .returned (.int .i64 (rI r))/\MG O w μ w':=by
 obtain⟨hh,h1,hv⟩:=Fi hv;obtain⟨w0,Fx,FM,x0,x1⟩:=Sv O.mb μ.slots w;have FE:Hid (MG O w μ w0):=Fh ((MG.refl h).below FM);have HHS:Hid (∀W,MG O w μ W->Calls prog 278 #[du O.mb μ.slots,.int .i64 (a:Int)] W λe w'=>e= .returned (.int .u32 (hh:Int))/\MG O W μ w'):=Fh (λW hg=>jy hg.has a hh ha h1);have Lf:Hid (∀W,MG O w μ W->Calls prog 277 #[du O.mb μ.slots,.agg #[.int .u32 (hh:Int),.func (.func 279) #[.int .i64 (a:Int)] #[]]] W λe w'=>e= .returned (.int .i64 (rI r))/\MG O W μ w'):=Fh (λW hg=>uE hg.has hh 279 #[.int .i64 (a:Int)] #[] (λv=>some (Nat.beq v a)) r (oX h1) (λv q W2 Gg RL hq=>by
  obtain rfl:=Fk hq;refine(DC a v W2).mono ?_;rintro e w'⟨rfl,rfl⟩;exact⟨rfl,MG.refl Gg.has⟩) (enters_of func279 (by kernel_rfl) rfl) hv)
 have HH:=Fh h;obtain⟨tb,O6⟩:=Fp w.heap.size;have Gu:MG O w μ w0.drew/\w0.drew.cell? ⟨tb,0,none⟩=some (.pointer (some ⟨O.mb,0,none⟩))/\w0.drew.cell? ⟨tb,1,none⟩=some (.int .i64 (μ.slots:Int)):=⟨FE.o.drew,by rw[O6];exact x0,by rw[O6];exact x1⟩;have HTB:Hid (w.heap.size<=tb):=Fh (by omega);clear h FM hv h1 x0 x1;go_in;go_upto_region 1 with fail;rw[<-Fx,<-O6];clear Fx O6
 go_region_held3 (λw'=>MG O w μ w'/\w'.cell? ⟨tb,0,none⟩=some (.pointer (some ⟨O.mb,0,none⟩))/\w'.cell? ⟨tb,1,none⟩=some (.int .i64 (μ.slots:Int)))
  (first|exact Gu|assumption|exact wR HH.o HTB.o (by assumption) (by assumption))
  (first
   |((go_at_call 278;with_reducible refine(HHS.o _ (And.left (by assumption))).mono ?_);rintro e w2 ⟨rfl,Gg⟩)
   |((go_at_call 277;with_reducible refine(Lf.o _ (And.left (by assumption))).mono ?_);rintro e w3 ⟨rfl,FZ⟩))
 all_goals
  have HX:Hid (MG O w μ w3):=Fh (And.left (by assumption));clear Gu;go_wp2;go_ret;exact⟨rfl,HX.o⟩
theorem iJ(h:ao O μ w)(i v:Nat)(μ':Mm)(hi:i<1099511627776)(hv:cG i v μ=some μ'):Calls prog 188 #[du O.mb μ.slots,.int .i64 (i:Int),.int .i64 (v:Int)] w λe w'=>e= .returned (.tuple #[])/\MG O w μ' w':=by
 obtain⟨w0,Fx,FM,x0,x1⟩:=Sv O.mb μ.slots w;have G5:=h.cf;have J0:0<μ.slots:=by omega
 have hm:i%μ.slots<μ.slots:=Nat.mod_lt _ J0;unfold cG at hv;have RL:v<4294967296:=(eY hv).2.1;have HH:=Fh h;have RI:IntKind.u64.wrap (v:Int)=(v:Int):=by rw[IntKind.wrap_u64];omega
 obtain⟨a,ha⟩:=Fp (az μ.Fq+i%μ.slots*4);obtain⟨r,hr⟩:=Fp (i%μ.slots);have HC:=Fh (λW (hs:RP O μ w w.heap.size W)=>(aD hs.mg.has).mono λe w' hq=>(⟨_,hq.1,rfl,hs.below hq.2⟩:∃x,e= .returned x/\x= .agg #[.int .i64 (μ.Fq:Int),.int .i64 (μ.slots:Int)]/\RP O μ w w.heap.size w'));have Qq:=Fh (λW (hs:RP O μ w w.heap.size W)=>(iH O.mb μ.slots i W J0 hi (by omega)).mono λe w' hq=>(⟨_,hq.1,by rw[hr],hs.below hq.2⟩:∃x,e= .returned x/\x= .int .i64 (r:Int)/\RP O μ w w.heap.size w'));have XZ:=λW (hs:RP O μ w w.heap.size W)=>(kU μ.Fq μ.slots (i%μ.slots) W hs.mg.has.env.Hk h.ok hm).mono λe w' hq=>(⟨_,hq.1,by rw[ha],hs.below hq.2⟩:∃x,e= .returned x/\x= .int .i64 (a:Int)/\RP O μ w w.heap.size w');rw[<-hr]at XZ;have HSA:=Fh XZ;have Hz:=λW (hs:RP O μ w w.heap.size W)=>(fo hs.mg.has _ 4 4 v μ' hv).mono λe w' hq=>(⟨_,hq.1,rfl,hs.mg.trans hq.2⟩:∃x,e= .returned x/\x= .bool true/\MG O w μ' w');rw[<-ha]at Hz;have LG:=Fh Hz;have Gu:RP O μ w w.heap.size w0.drew:=⟨((MG.refl h).below FM).drew,x0,x1⟩;clear h hv ha hr FM hi G5 J0 hm XZ Hz;go_in;go_upto_region 1 with fail;rw[<-Fx];clear Fx
 go_region_law (first
  |(refine aX rfl 77 #[.pointer (some ⟨O.mb,0,none⟩)] ?_ _ (HC.o _ (by assumption)) ?_
    ·(go_simp;done)
    rintro v5 w5⟨rfl,Ik⟩;have d0:=Ik.c0;have d1:=Ik.c1)
  |(refine aX rfl 280 #[du O.mb μ.slots,.int .i64 (i:Int)] ?_ _ (Qq.o _ (by assumption)) ?_
    ·(go_simp;done)
    rintro v6 w6⟨rfl,OB⟩;have d0:=OB.c0;have d1:=OB.c1)
  |(refine aX rfl 76 #[.agg #[.int .i64 (μ.Fq:Int),.int .i64 (μ.slots:Int)],.int .i64 (r:Int)] ?_ _ (HSA.o _ (by assumption)) ?_
    ·(go_simp;done)
    rintro v7 w7⟨rfl,Wo⟩;have d0:=Wo.c0;have d1:=Wo.c1)
  |(refine aX rfl 135 #[.pointer (some ⟨O.mb,0,none⟩),.int .i64 (a:Int),.int .i64 4,.int .i64 4,.int .u64 (v:Int)] ?_ _ (LG.o _ (by assumption)) ?_
    ·(go_simp;done)
    rintro v8 w8⟨rfl,Uo⟩;have Ow:=Fh Uo))
 all_goals
  go_wp2;go_end0;exact⟨rfl,Ow.o⟩
end
section
variable{O:av}{μ:Mm}{w:World}
theorem Mm.Hf(m:Mm)(a n:Nat):(m.bytes a n).length=n:=by simp[Mm.bytes]
theorem ao.part(h:ao O μ w){a n:Nat}(hr:a+n<=μ.size):aM w (some ⟨O.gb,a,none⟩) (ay (μ.bytes a n)):=λi v hv=>by
 have hi:=(List.getElem?_eq_some_iff.1 hv).1;rw[kI,Mm.Hf]at hi;refine⟨_,a,rfl,?_⟩;rw[h.JP.cell (i:=a+i) (by omega)];simp only [ay,Mm.bytes,List.getElem?_map,List.getElem?_range hi,Option.map_some,Option.some.injEq]at hv;rw[<-hv];have:=Tr.Jz μ.b (a+i);simp only [UInt8.toNat_ofNat',Option.some.injEq,Value.int.injEq,true_and];omega
theorem fR{a n k:Nat}{l:List UInt8}(h:dC a n k μ=some l):1<=n/\μ.row a n k=true/\a+n<=μ.size/\l=μ.bytes a n:=by
 unfold dC at h;split at h
 ·rename_i h1
  refine⟨h1.1,h1.2,?_,(Fk h).symm⟩;have:=h1.2;unfold Mm.row at this;rw[Bool.and_eq_true,decide_eq_true_eq]at this;exact this.1
 ·cases h
theorem BP(h:ao O μ w)(a n:Nat)(hn:1<=n)(hr:a+n<=μ.size):Calls prog 300 #[.pointer (some ⟨O.ab,0,none⟩),.int .i64 (a:Int),.int .i64 (n:Int)] w λe w'=>∃u,e= .returned (.tuple #[u,.int .i64 0])/\w'.ownsRow w.heap.size 5 1 u n (ay (μ.bytes a n))/\Below w.heap.size w w':=by
 have HP:=Fh (oe h a n hn hr);have F8:=h.sz;have GI:=kT (some ⟨O.gb,a,none⟩) n (μ.bytes a n) w (by rw[Mm.Hf];omega) (h.part hr);rw[Mm.Hf]at GI;have JE:=Fh GI;clear h GI F8;go_in;go_wp2_with fail;refine HP.o.mono ?_;rintro e w1⟨rfl,rfl⟩;go_wp2_with fail;refine JE.o.mono ?_;rintro e w2⟨u,rfl,ho,hb⟩;have HO:=Fh ho;have HB:=Fh hb;clear ho hb;go_wp2;go_ret2;exact⟨u,rfl,HO.o,HB.o⟩
theorem mh(h:ao O μ w)(a n k:Nat)(l:List UInt8)(hv:dC a n k μ=some l):Calls prog 221 #[.pointer (some ⟨O.mb,0,none⟩),.int .i64 (a:Int),.int .i64 (n:Int),.int .i64 (k:Int)] w λe w'=>∃u,e= .returned u/\w'.ownsRow w.heap.size 5 1 u n (ay l)/\MG O w μ w':=by
 obtain⟨hn,Gh,GU,rfl⟩:=fR hv;have HR:=Fh (wv h a n k Gh);have HA:=Fh (λW (hg:MG O w μ W)=>BP hg.has a n hn GU);have HC:Hid (∀W,MG O w μ W->W.cell? ⟨O.mb,1,none⟩=some (.pointer (some ⟨O.ab,0,none⟩))):=Fh (λW hg=>hg.has.mc.2.1);clear h hv Gh GU hn;go_in;go_wp2_with fail;refine HR.o.mono ?_;rintro e w1⟨rfl,hg⟩;have FA:=Fh hg;have c1:=HC.o _ hg;clear hg;go_wp2_with fail;refine(HA.o _ FA.o).mono ?_;rintro e w2⟨u,rfl,ho,hb⟩;have HO:Hid (w2.ownsRow w.heap.size 5 1 u n (ay (μ.bytes a n))):=Fh (aS ho FA.o.kept.size);have FK:=Fh (FA.o.below hb);clear ho hb;go_wp2;go_ret;exact⟨u,rfl,HO.o,FK.o⟩
theorem yg(h:ao O μ w)(fr:Nat)(r:Option Nat)(GF:fr<1048576)(hv:ze fr μ=some r):Calls prog 268 #[du O.mb μ.slots,.int .i64 (fr:Int)] w λe w'=>e= .returned (.int .i64 (rI r))/\MG O w μ w':=by
 have G5:=h.cf;have VK:μ.slots<=8192:=G5.2.2.1;obtain⟨w0,Fx,FM,x0,x1⟩:=Sv O.mb μ.slots w;have ND:Hid (RP O μ w w.heap.size w0):=Fh ⟨(MG.refl h).below FM,x0,x1⟩;have HH:=Fh h;unfold ze at hv;have HV:=Fh hv;clear h FM hv G5;go_in;go_upto_region 1 with fail;rw[<-Fx];clear Fx;go_wp2_with fail;clear x0 x1
 go_loopw [4,5,8] (λs4 _ s8 wr=>∃i:Nat,i<=μ.slots/\s4= .int .i64 0/\s8= .int .i64 i/\Hid (qB μ fr i (μ.slots-i)=some r)/\Hid (RP O μ w w.heap.size wr)) (λ_ _ s8 _=>match s8 with| .int _ m=>μ.slots-m.toNat|_=>0)
 case atStart=>exact⟨0,by omega,rfl,rfl,HV,ND⟩
 case round=>
  obtain⟨i,hi,rfl,rfl,HF,HT⟩:=hrel;by_cases FR:i<μ.slots
  ·have hf:=HF.o;rw[show μ.slots-i=(μ.slots-(i+1))+1 by omega,qB]at hf;obtain⟨v,h1,hf⟩:=Fi hf;have Gw:=fO HT.o.mg.has (fr+i) v (by omega) h1;rw[show((fr+i:Nat):Int)=(fr:Int)+(i:Int)by omega]at Gw;have Gn:=Fh Gw;have x0:=HT.o.c0;have x1:=HT.o.c1;clear Gw h1;by_cases h0:v=0
   ·rw[if_pos h0]at hf;have HE:Hid (r=some i):=Fh (Fk hf).symm;subst h0;clear hf;go_wp2_with fail;refine Gn.o.mono ?_;rintro e w3⟨rfl,hg⟩;have FT:=Fh (HT.o.mg.trans hg);clear hg;go_wp2;go_ret;exact⟨by rw[HE.o];rfl,FT.o⟩
   ·rw[if_neg h0]at hf;have KP:=Fh hf;have z0:((v:Int)==0)=false:=by rw[Fo];omega
    clear hf h0;go_wp2_with fail;refine Gn.o.mono ?_;rintro e w3⟨rfl,hg⟩;have Pp:Hid (RP O μ w w.heap.size w3):=Fh ⟨HT.o.mg.trans hg,hg.kept.cell HT.o.c0 (HH.o.Fu (Fm _)),hg.kept.cell HT.o.c1 (HH.o.Fu (Fm _))⟩;clear hg;go_wp2;go_roundw
    case rel=>exact⟨i+1,by omega,rfl,by go_num,KP,Pp⟩
    case measure=>simp;omega
  ·have hii:i=μ.slots:=by omega
   have hf:=HF.o;rw[hii,Nat.sub_self,qB]at hf;have HE:Hid (r=none):=Fh (Fk hf).symm;clear hf hii;go_wp2;go_ret;exact⟨by rw[HE.o];rfl,HT.o.mg⟩
end
end Go.Proofs.YtifkphcaelafjaaGreatDoor
namespace Go.FC
theorem uF{m:Mm}{home:Nat}{is:Nat->Option Bool}:∀(k step i v:Nat),dF m home is k step=some (some i)->dE i m=some v->v≠0
 |0,step,i,v,h,_=>by rw[dF]at h;cases h
 |k+1,step,i,v,h,hv=>by
  rw[dF]at h;split at h
  ·cases h
  ·obtain⟨b,h1,h⟩:=Fi h;split at h
   ·cases h
   ·rename_i hb
    obtain⟨u,h2,h⟩:=Fi h;obtain⟨q,h3,h⟩:=Fi h;split at h
    ·have e:=Fk (Fk h);subst e;have h4:dE (home+step) m=some v:=by
      unfold dE at hv⊢;rw[Nat.mod_mod]at hv;exact hv
     unfold mG at h1;rw[h4]at h1;rintro rfl;simp at h1;exact hb h1
    ·exact uF k (step+1) i v h hv
theorem jD{m:Mm}{home:Nat}{is:Nat->Option Bool}(hn:0<m.slots):∀(k step i:Nat),dF m home is k step=some (some i)->i<m.slots
 |0,step,i,h=>by rw[dF]at h;cases h
 |k+1,step,i,h=>by
  rw[dF]at h;split at h
  ·cases h
  ·obtain⟨b,h1,h⟩:=Fi h;split at h
   ·cases h
   ·obtain⟨u,h2,h⟩:=Fi h;obtain⟨q,h3,h⟩:=Fi h;split at h
    ·have e:=Fk (Fk h);rw[<-e];exact Nat.mod_lt _ hn
    ·exact jD hn k (step+1) i h
theorem BQ{m:Mm}{h:Nat}{is:Nat->Option Bool}(hn:0<m.slots){i:Nat}(hv:lN h is m=some (some i)):i<m.slots:=jD hn _ _ _ hv
end Go.FC
namespace Go.Proofs.YtifkphcaelafjaaGreatDoor
open Tryz
open Go.RowKit Go.Colm Go.FC Go.Maps
section
variable{O:av}{μ:Mm}{w:World}
theorem rD(h:ao O μ w)(hh:Nat)(k:FuncId)(xs cp:Array Value)(is:Nat->Option Bool)(r:Nat)(XX:hh<4294967296)
  (hf:∀(v:Nat) (q:Bool) (W:World),MG O w μ W->v<4294967296->is v=some q->Calls prog k (xs.push (.int .i64 (v:Int))++cp) W λe w'=>e= .returned (.bool q)/\MG O W μ w')
  (he:∀(args:Array Value) (W:World),(callFunc k args).run prog W= .ok (.enter k args) W) (hv:eN hh is μ=some r):
  Calls prog 255 #[du O.mb μ.slots,.agg #[.int .u32 (hh:Int),.func (.func k) xs cp]] w λe w'=>e= .returned (.tuple #[.int .i64 (r:Int),.bool (decide (r≠0))])/\MG O w μ w':=by
 obtain⟨p,h1,hv⟩:=Fi hv;have G5:=h.cf;obtain⟨w1,FJ⟩:=Fp (w.alloc (.cells #[.pointer (some ⟨O.mb,0,none⟩),.int .i64 (μ.slots:Int)] 136));obtain⟨w0,Fx⟩:=Fp (w1.alloc (.cells #[.int .u32 (hh:Int),.func (.func k) xs cp] 294));have FN:Below w.heap.size w w1:=by rw[FJ];exact(Below.refl _ w).alloc (Fm _) _
 have FM:Below w1.heap.size w1 w0:=by rw[Fx];exact(Below.refl _ w1).alloc (Fm _) _
 have Nh:w1.heap.size=w.heap.size+1:=by rw[FJ];exact bI _ _
 have OC:Whole w1 w.heap.size 136 #[.pointer (some ⟨O.mb,0,none⟩),.int .i64 (μ.slots:Int)]:=by rw[FJ];exact Whole.new w _ _
 have RO:Whole w0 (w.heap.size+1) 294 #[.int .u32 (hh:Int),.func (.func k) xs cp]:=by rw[<-Nh,Fx];exact Whole.new w1 _ _
 have Q7:Hid (Za O μ w w0 w0 hh (.func (.func k) xs cp)):=Fh ⟨((MG.refl h).below FN).below FM,(aa.below FM λ_=>False).whole OC id,RO⟩;have Lf:=Fh (uE Q7.o.mg.has hh k xs cp is p XX (λv q W hg RL hq=>hf v q W (Q7.o.mg.trans hg) RL hq) he h1);have HH:=Fh h;have x0:w0.cell? ⟨w.heap.size,0,none⟩=some (.pointer (some ⟨O.mb,0,none⟩)):=Q7.o.t.cell 0;have x1:w0.cell? ⟨w.heap.size,1,none⟩=some (.int .i64 (μ.slots:Int)):=Q7.o.t.cell 1;have y0:w0.cell? ⟨w.heap.size+1,0,none⟩=some (.int .u32 (hh:Int)):=Q7.o.l.cell 0;have y1:w0.cell? ⟨w.heap.size+1,1,none⟩=some (.func (.func k) xs cp):=Q7.o.l.cell 1;clear h FN FM Nh OC RO hf;go_in;go_upto_region 1 with fail;rw[<-FJ];rw[<-Fx];clear FJ Fx;go_wp2_with fail;refine Lf.o.mono ?_;rintro e w2⟨rfl,hg⟩;have KP:=Fh (Q7.o.step HH.o hg);have x0:w2.cell? ⟨w.heap.size,0,none⟩=some (.pointer (some ⟨O.mb,0,none⟩)):=KP.o.t.cell 0;have x1:w2.cell? ⟨w.heap.size,1,none⟩=some (.int .i64 (μ.slots:Int)):=KP.o.t.cell 1;clear hg y0 y1;cases p with
 |none=>
  obtain rfl:=Fk hv;have z:rI none= -1:=rfl;rw[z];clear z hv h1;go_wp2;go_ret2;exact⟨rfl,KP.o.mg⟩
 |some i=>
  have hne:=uF _ _ i r h1 hv;have RD:i<μ.slots:=BQ (by omega) h1;have Gn:=Fh (fO KP.o.mg.has i r (by omega) hv);have z:rI (some i)=(i:Int):=rfl;have zi:((i:Int)== -1)=false:=by rw[Fo];omega
  have HD:Hid (decide (r≠0)=true):=Fh (by simp[hne]);rw[z];clear z hv h1 hne;go_wp2_with fail;refine Gn.o.mono ?_;rintro e w3⟨rfl,hg⟩;have FT:=Fh (KP.o.mg.trans hg);clear hg;go_wp2;go_ret2;rw[HD.o];exact⟨rfl,FT.o⟩
theorem zO(h:ao O μ w)(name typ hh v:Nat)(q:Bool)(b0 b1 b2 b3:Nat)(c0:w.cell? ⟨b0,0,none⟩=some (.pointer (some ⟨O.mb,0,none⟩)))(c1:w.cell? ⟨b1,0,none⟩=some (.int .u32 (name:Int)))(c2:w.cell? ⟨b2,0,none⟩=some (.int .u16 (typ:Int)))(c3:w.cell? ⟨b3,0,none⟩=some (.int .u32 (hh:Int)))
  (m0:¬au O b0) (m1:¬au O b1) (m2:¬au O b2) (m3:¬au O b3) (RL:v<4294967296) (hv:jV name typ hh μ v=some q):
  Calls prog 256 #[.int .i64 (v:Int),.pointer (some ⟨b0,0,none⟩),.pointer (some ⟨b1,0,none⟩),.pointer (some ⟨b2,0,none⟩),.pointer (some ⟨b3,0,none⟩)] w λe w'=>e= .returned (.bool q)/\MG O w μ w':=by
 obtain⟨⟨b,er⟩,h1,hv⟩:=Fi hv;have hq:=(Fk hv).symm;dsimp only at hq;rw[qD,qD,qD,qD]at hq;have Gn:=Fh (gy h v b er RL h1);have II:=fL h1;unfold G0 at Gn;have HK:Hid (∀W,MG O w μ W->W.cell? ⟨b0,0,none⟩=some (.pointer (some ⟨O.mb,0,none⟩))/\W.cell? ⟨b1,0,none⟩=some (.int .u32 (name:Int))/\W.cell? ⟨b2,0,none⟩=some (.int .u16 (typ:Int))/\W.cell? ⟨b3,0,none⟩=some (.int .u32 (hh:Int))):=Fh (λW hg=>⟨hg.kept.cell c0 m0,hg.kept.cell c1 m1,hg.kept.cell c2 m2,hg.kept.cell c3 m3⟩);have HQ:=Fh hq;clear h h1 hv hq c1 c2 c3 II;go_in;go_wp2_with fail;refine Gn.o.mono ?_;rintro e w1⟨rfl,hg⟩;obtain⟨w2,FL⟩:=Fp (w1.alloc (.cells (G0 b) 165));have Gg:MG O w μ w2:=by rw[FL];exact hg.alloc _
 have Gc:Whole w2 w1.heap.size 165 (G0 b):=by rw[FL];exact Whole.new w1 _ _
 obtain⟨k0,k1,k2,k3⟩:=HK.o _ Gg;obtain⟨x0,x1,x2,x3,x4,x5,x6,x7,x8,x9,IQ,I2⟩:=aZ Gc;have FK:=Fh Gg;unfold G0 at FL;clear hg Gg Gc c0;go_upto_region 2 with fail;rw[<-FL];clear FL;by_cases t1:b.tag=1
 ·have d1:((b.tag:Int)==1)=true:=by rw[t1];rfl
  by_cases t2:b.name=name
  ·have d2:((b.name:Int)==(name:Int))=true:=by rw[t2];simp
   by_cases t3:b.typ=typ
   ·have d3:((b.typ:Int)==(typ:Int))=true:=by rw[t3];simp
    have HE:Hid (q=decide (b.hash=hh)):=Fh (by rw[HQ.o];simp[t1,t2,t3]);clear t1 t2 t3;go_wp2;go_ret;exact⟨aq (by rw[HE.o,Bool.eq_iff_iff];simp;omega),FK.o⟩
   ·have d3:((b.typ:Int)==(typ:Int))=false:=by rw[Fo];omega
    have HE:Hid (q=false):=Fh (by rw[HQ.o];simp[t1,t2,t3]);clear t1 t2 t3;go_wp2;go_ret;exact⟨by rw[HE.o];rfl,FK.o⟩
  ·have d2:((b.name:Int)==(name:Int))=false:=by rw[Fo];omega
   have HE:Hid (q=false):=Fh (by rw[HQ.o];simp[t1,t2]);clear t1 t2;go_wp2;go_ret;exact⟨by rw[HE.o];rfl,FK.o⟩
 ·have d1:((b.tag:Int)==1)=false:=by rw[Fo];omega
  have HE:Hid (q=false):=Fh (by rw[HQ.o];simp[t1]);clear t1;go_wp2;go_ret;exact⟨by rw[HE.o];rfl,FK.o⟩
theorem uG(w:World)(v:Value)(T:TypeId):∃w1,w1=w.alloc (.cells #[v] T)/\Below w.heap.size w w1/\w1.heap.size=w.heap.size+1/\w1.cell? ⟨w.heap.size,0,none⟩=some v:=
 ⟨_,rfl,(Below.refl _ w).alloc (Fm _) _,bI _ _,(Whole.new w _ _).cell 0⟩
theorem zP(h:ao O μ w)(name typ hh r:Nat)(hn:name<4294967296)(ht:typ<65536)(XX:hh<4294967296)(hv:eN hh (jV name typ hh μ) μ=some r):
  Calls prog 159 #[.pointer (some ⟨O.mb,0,none⟩),.int .u32 (name:Int),.int .u16 (typ:Int),.int .u32 (hh:Int)] w λe w'=>e= .returned (.tuple #[.int .i64 (r:Int),.bool (decide (r≠0))])/\MG O w μ w':=by
 obtain⟨w1,FJ,FN,Nh,c0⟩:=uG w (.pointer (some ⟨O.mb,0,none⟩)) 68;obtain⟨w2,FL,FF,IU,c1⟩:=uG w1 (.int .u32 (name:Int)) 163;obtain⟨w3,F7,Gf,Il,c2⟩:=uG w2 (.int .u16 (typ:Int)) 38;obtain⟨w4,Hn,Gk,Nf,c3⟩:=uG w3 (.int .u32 (hh:Int)) 163;rw[show w1.heap.size=w.heap.size+1 from Nh]at c1 IU;rw[IU]at c2 Il;rw[Il]at c3;have k0:w4.cell? ⟨w.heap.size,0,none⟩=some (.pointer (some ⟨O.mb,0,none⟩)):=by
  have a1:=(FF.cell (ap c0)).trans c0;have a2:=(Gf.cell (ap a1)).trans a1;exact(Gk.cell (ap a2)).trans a2
 have k1:w4.cell? ⟨w.heap.size+1,0,none⟩=some (.int .u32 (name:Int)):=by
  have a2:=(Gf.cell (ap c1)).trans c1;exact(Gk.cell (ap a2)).trans a2
 have k2:w4.cell? ⟨w.heap.size+1+1,0,none⟩=some (.int .u16 (typ:Int)):=(Gk.cell (ap c2)).trans c2;have k3:w4.cell? ⟨w.heap.size+1+1+1,0,none⟩=some (.int .u32 (hh:Int)):=c3;have FW:Hid (MG O w μ w4):=Fh (((((MG.refl h).below FN).below FF).below Gf).below Gk);have KR:Hid (∀k,w.heap.size<=k->¬au O k):=Fh (λk hk=>h.Fu hk);have Ku:Hid (∀W,MG O w4 μ W->Calls prog 74 #[.pointer (some ⟨O.mb,0,none⟩)] W λe w'=>e= .returned (du O.mb μ.slots)/\MG O W μ w'):=Fh (λW hg=>(j7 hg.has).mono λe w' hq=>⟨hq.1,(MG.refl hg.has).below hq.2⟩);have Zc:Hid (∀W,MG O w4 μ W->Calls prog 255 #[du O.mb μ.slots,.agg #[.int .u32 (hh:Int),.func (.func 256) #[] #[.pointer (some ⟨w.heap.size,0,none⟩),.pointer (some ⟨w.heap.size+1,0,none⟩),.pointer (some ⟨w.heap.size+1+1,0,none⟩),.pointer (some ⟨w.heap.size+1+1+1,0,none⟩)]]] W λe w'=>e= .returned (.tuple #[.int .i64 (r:Int),.bool (decide (r≠0))])/\MG O W μ w'):=Fh (λW hg=>
  rD hg.has hh 256 #[] _ (jV name typ hh μ) r XX (λv q W2 Gg RL hq=>by
   have FZ:=hg.trans Gg;exact zO FZ.has name typ hh v q w.heap.size (w.heap.size+1) (w.heap.size+1+1) (w.heap.size+1+1+1) (FZ.kept.cell k0 (h.Fu (Fm _))) (FZ.kept.cell k1 (h.Fu (k:=w.heap.size+1) (by omega))) (FZ.kept.cell k2 (h.Fu (k:=w.heap.size+1+1) (by omega))) (FZ.kept.cell k3 (h.Fu (k:=w.heap.size+1+1+1) (by omega))) (h.Fu (Fm _)) (h.Fu (by omega)) (h.Fu (by omega)) (h.Fu (by omega)) RL hq) (enters_of func256 (by kernel_rfl) rfl) hv)
 obtain⟨bq,hbq⟩:=Fp (decide (r≠0));rw[<-hbq]at Zc⊢;clear hbq;have Gu:MG O w4 μ w4.drew/\w4.drew.cell? ⟨w.heap.size,0,none⟩=some (.pointer (some ⟨O.mb,0,none⟩))/\w4.drew.cell? ⟨w.heap.size+1+1+1,0,none⟩=some (.int .u32 (hh:Int)):=⟨(MG.refl FW.o.has).drew,k0,k3⟩;have T7:Hid (∀ {W W2:World},MG O w4 μ W/\W.cell? ⟨w.heap.size,0,none⟩=some (.pointer (some ⟨O.mb,0,none⟩))/\W.cell? ⟨w.heap.size+1+1+1,0,none⟩=some (.int .u32 (hh:Int))->MG O W μ W2->MG O w4 μ W2/\W2.cell? ⟨w.heap.size,0,none⟩=some (.pointer (some ⟨O.mb,0,none⟩))/\W2.cell? ⟨w.heap.size+1+1+1,0,none⟩=some (.int .u32 (hh:Int))):=Fh (λh k=>⟨h.1.trans k,k.kept.cell h.2.1 (KR.o _ (Fm _)),k.kept.cell h.2.2 (KR.o _ (by show _<=w.heap.size+1+1+1;omega))⟩);clear h hv FN FF Gf Gk c0 c1 c2 c3 k0 k1 k2 k3 Nh IU Il Nf;go_in;go_upto_region 1 with fail;rw[<-FJ];rw[<-FL];rw[<-F7];rw[<-Hn];clear FJ FL F7 Hn
 go_region_held3 (λw'=>MG O w4 μ w'/\w'.cell? ⟨w.heap.size,0,none⟩=some (.pointer (some ⟨O.mb,0,none⟩))/\w'.cell? ⟨w.heap.size+1+1+1,0,none⟩=some (.int .u32 (hh:Int)))
  (first|exact Gu|assumption|exact T7.o (by assumption) (by assumption))
  (first
   |((go_at_call 74;with_reducible refine(Ku.o _ (And.left (by assumption))).mono ?_);rintro e w5 ⟨rfl,IB⟩)
   |((go_at_call 255;with_reducible refine(Zc.o _ (And.left (by assumption))).mono ?_);rintro e w6 ⟨rfl,Hm⟩))
 all_goals
  have HX:Hid (MG O w μ w6):=Fh (FW.o.trans (And.left (by assumption)));clear Gu;go_wp2;go_ret2;exact⟨rfl,HX.o⟩
end
open Go.Fz Go.Fy
theorem uH{A:Option Addr}{n c:Nat}{l:List UInt8}(hn:l.length=n)(hA:∀a,A=some a->a.spot=none)(W:World)(h:aM W A (ay l)):(convert 73 9 (.slice A n c)).run prog W= .ok (.string ⟨l.toArray⟩) W:=by
 subst hn;exact lH underlying73 underlying5 W A l c h hA _ underlying9
theorem rE{w:World}{base:Nat}{e:TypeId}{A:Option Addr}{n c:Nat}{xs:List Value}(h:w.ownsRow base e 1 (.slice A n c) n xs):∀a,A=some a->a.spot=none:=by
 rcases h.2 with⟨h0,_⟩|⟨g,cap,Kb,h0,_⟩
 ·cases h0;intro a ha;cases ha
 ·cases h0;intro a ha;cases ha;rfl
section
variable{O:av}{μ:Mm}{w:World}
def RQ(O:av)(μ:Mm)(a b:World):Prop:=ao O μ a->MG O a μ b
theorem RQ.below{W W2:World}(k:Below W.heap.size W W2):RQ O μ W W2:=λh=>(MG.refl h).below k
def E9(O:av)(n:Nat)(l:List UInt8)(v:Value)(W:World):Prop:=∃A c,v= .slice A n c/\aM W A (ay l)/\(∀a,A=some a->a.spot=none)/\(∀a,A=some a->¬au O a.block)/\ao O μ W
def ndF(μ:Mm)(w:World)(O:av)(pl b0 b2 g:Nat)(b:Bk)(s:List UInt8)(S:ByteArray)(q:Bool):Nat->Value->World->Prop
 |0,v,_=>v= .pointer (some ⟨O.mb,0,none⟩)
 |1,v,_=>v= .int .i64 (pl:Int)
 |2,v,_=>v= .int .i64 ((pl:Int)+16)
 |3,v,_=>v= .pointer (some ⟨g,3,none⟩)
 |4,v,_=>v= .int .i64 (b.label:Int)
 |5,v,W=>E9 (μ:=μ) O b.label s v W
 |6,v,_=>v= .string ⟨s.toArray⟩
 |7,v,_=>v= .string S
 |8,v,_=>v= .bool q
 |9,v,_=>v= .bool q
 |_,_,_=>True
theorem BR(μ:Mm)(w:World)(O:av)(pl b0 b2 g:Nat)(b:Bk)(s:List UInt8)(S:ByteArray)(q:Bool):∀(j:Nat) (v:Value) (W W':World),RQ O μ W W'->ndF μ w O pl b0 b2 g b s S q j v W->ndF μ w O pl b0 b2 g b s S q j v W'
 |0,_,_,_,_,h=>h
 |1,_,_,_,_,h=>h
 |2,_,_,_,_,h=>h
 |3,_,_,_,_,h=>h
 |4,_,_,_,_,h=>h
 |5,_,_,_,hb,h=>(by obtain⟨A,c,e1,e2,e3,e4,e5⟩:=h;have hg:=hb e5;exact⟨A,c,e1,oD e2 hg.kept e4,e3,e4,hg.has⟩)
 |6,_,_,_,_,h=>h
 |7,_,_,_,_,h=>h
 |8,_,_,_,_,h=>h
 |9,_,_,_,_,h=>h
 |_+10,_,_,_,_,_=>trivial
theorem BT(h:ao O μ w)(up hh pl:Nat)(l:List UInt8)(q:Bool)(b0 b1 b2 b3:Nat)(c0:w.cell? ⟨b0,0,none⟩=some (.pointer (some ⟨O.mb,0,none⟩)))(c1:w.cell? ⟨b1,0,none⟩=some (.int .u32 (up:Int)))(c2:w.cell? ⟨b2,0,none⟩=some (.string ⟨l.toArray⟩))(c3:w.cell? ⟨b3,0,none⟩=some (.int .u32 (hh:Int)))
  (m0:¬au O b0) (m1:¬au O b1) (m2:¬au O b2) (m3:¬au O b3) (RL:pl<4294967296) (hl:l.length<1048576) (hv:mH up l hh μ pl=some q):
  Calls prog 316 #[.int .i64 (pl:Int),.pointer (some ⟨b0,0,none⟩),.pointer (some ⟨b1,0,none⟩),.pointer (some ⟨b2,0,none⟩),.pointer (some ⟨b3,0,none⟩)] w λe w'=>e= .returned (.bool q)/\MG O w μ w':=by
 obtain⟨⟨b,er⟩,h1,hv⟩:=Fi hv;dsimp only at hv;have Gn:=Fh (gy h pl b er RL h1);have II:=Fh (fL h1);unfold G0 at Gn;obtain⟨S,hS⟩:∃S:ByteArray,S=⟨l.toArray⟩:=⟨_,rfl⟩;have F8:S.size=l.length:=by rw[hS];exact eH l
 rw[<-hS]at c2;have HSS:=Fh hS;clear hS;have HK:Hid (∀W,MG O w μ W->W.cell? ⟨b0,0,none⟩=some (.pointer (some ⟨O.mb,0,none⟩))/\W.cell? ⟨b1,0,none⟩=some (.int .u32 (up:Int))/\W.cell? ⟨b2,0,none⟩=some (.string S)/\W.cell? ⟨b3,0,none⟩=some (.int .u32 (hh:Int))):=Fh (λW hg=>⟨hg.kept.cell c0 m0,hg.kept.cell c1 m1,hg.kept.cell c2 m2,hg.kept.cell c3 m3⟩);have HV:=Fh hv;have HH:=Fh h;clear h h1 hv c1 c2 c3;go_in;go_wp2_with fail;refine Gn.o.mono ?_;rintro e w1⟨rfl,hg⟩;obtain⟨w2,FL⟩:=Fp (w1.alloc (.cells (G0 b) 165));have Gg:MG O w μ w2:=by rw[FL];exact hg.alloc _
 have Gc:Whole w2 w1.heap.size 165 (G0 b):=by rw[FL];exact Whole.new w1 _ _
 obtain⟨k0,k1,k2,k3⟩:=HK.o _ Gg;obtain⟨x0,x1,x2,x3,x4,x5,x6,x7,x8,x9,IQ,I2⟩:=aZ Gc;have FK:=Fh Gg;have KO:=Fh Gc;have hgge:w.heap.size<=w1.heap.size:=hg.kept.size;unfold G0 at FL;clear hg Gg Gc c0;go_upto_region 2 with fail;rw[<-FL];clear FL;by_cases t1:b.tag=2
 ·have d1:((b.tag:Int) !=2)=false:=by rw[t1];rfl
  by_cases t2:b.name=up
  ·have d2:((b.name:Int) !=(up:Int))=false:=by rw[t2];simp
   by_cases t3:b.label=l.length
   ·have d3:((b.label:Int) !=(l.length:Int))=false:=by rw[t3];simp
    by_cases t4:b.hash=hh
    ·have d4:((b.hash:Int) !=(hh:Int))=false:=by rw[t4];simp
     have hv:=HV.o;rw[if_neg (by rintro(h|h|h|h)<;>exact absurd (by assumption) h)]at hv;obtain⟨s,h5,hv⟩:=Fi hv;have hq:=(Fk hv).symm;have XC:Hid (s.length=b.label):=Fh (by rw[(fR h5).2.2.2,Mm.Hf]);have HQ:Hid (((ByteArray.mk s.toArray).toList==S.toList)=q):=Fh (by rw[hq,HSS.o,ByteArray.toList_mk,ByteArray.toList_mk,Bool.eq_iff_iff];simp);have MH:=λW (hh:ao O μ W)=>mh hh (pl+16) b.label 5 s h5;simp only [show((pl+16:Nat):Int)=(pl:Int)+16 by omega]at MH;have Sq:=Fh MH;clear hv hq h5 MH t1 t2 t3 t4;have HH0:Hid (ao O μ w2.drew):=Fh FK.o.has.drew;have HKR:Hid (∀W,MG O w2.drew μ W->W.cell? ⟨b0,0,none⟩=some (.pointer (some ⟨O.mb,0,none⟩))/\W.cell? ⟨b2,0,none⟩=some (.string S)/\W.cell? ⟨w1.heap.size,3,none⟩=some (.int .i64 (b.label:Int))):=Fh (λW hg=>⟨hg.kept.cell k0 m0,hg.kept.cell k2 m2,hg.kept.cell x3 (HH.o.Fu hgge)⟩);go_wp2_with fail;obtain⟨g,hgq⟩:=Fp w1.heap.size;rw[<-hgq]at HKR⊢;clear hgq;refine dq (ndF μ w2 O pl b0 b2 g b s S q) (RQ O μ) rfl (n:=46) rfl (by kernel_rfl) (by kernel_rfl) (λw h=>MG.refl h) (λ_ _ _ h k x=>(h x).trans (k (h x).has)) (BR _ _ _ _ _ _ _ _ _ _ _) ?_ ?_
     ·skip
      refine(al ?_ (al ?_ (al ?_ (al ?_ (al ?_ (al ?_ (al ?_ (al ?_ (al ?_ (al ?_ j3))))))))))
      ·
       intro L9 a9 W9 hm hn hp hr K9 hK;have e1:a9.tmps[1]? =some (.pointer (some ⟨b0,0,none⟩)):=(hm.IL hn (by rfl)).trans rfl;have y0:=(HKR.o W9 (hr HH0.o)).1;exact dg rfl (by go_simp) (hK _ _ rfl (RQ.below (Below.refl _ _)))
      ·
       intro L9 a9 W9 hm hn hp hr K9 hK;have e0:a9.tmps[0]? =some (.int .i64 (pl:Int)):=(hm.IL hn (by rfl)).trans rfl;exact dg rfl (by go_simp) (hK _ _ rfl (RQ.below (Below.refl _ _)))
      ·
       intro L9 a9 W9 hm hn hp hr K9 hK;obtain⟨v1,e38,Wg⟩:=hm.Jo (j:=1) (t:=38) rfl rfl (hp ⟨1,.data⟩ (by simp) rfl);obtain rfl:v1= .int .i64 (pl:Int):=Wg;have FL:IntKind.i64.wrap ((pl:Int)+16)=(pl:Int)+16:=IntWalk.i64_in _ (by omega);exact dg rfl (by go_simp) (hK _ _ rfl (RQ.below (Below.refl _ _)))
      ·
       intro L9 a9 W9 hm hn hp hr K9 hK;have e7:a9.tmps[7]? =some (.pointer (some ⟨g,0,none⟩)):=(hm.IL hn (by rfl)).trans rfl;exact dg rfl (by go_simp) (hK _ _ rfl (RQ.below (Below.refl _ _)))
      ·
       intro L9 a9 W9 hm hn hp hr K9 hK;obtain⟨v3,e40,XH⟩:=hm.Jo (j:=3) (t:=40) rfl rfl (hp ⟨3,.data⟩ (by simp) rfl);obtain rfl:v3= .pointer (some ⟨g,3,none⟩):=XH;have y4:=(HKR.o W9 (hr HH0.o)).2.2;exact dg rfl (by go_simp) (hK _ _ rfl (RQ.below (Below.refl _ _)))
      ·
       intro L9 a9 W9 hm hn hp hr K9 hK;obtain⟨v0,e37,JG⟩:=hm.Jo (j:=0) (t:=37) rfl rfl (hp ⟨0,.data⟩ (by simp) rfl);obtain rfl:v0= .pointer (some ⟨O.mb,0,none⟩):=JG;obtain⟨v2,e39,IT⟩:=hm.Jo (j:=2) (t:=39) rfl rfl (hp ⟨2,.data⟩ (by simp) rfl);obtain rfl:v2= .int .i64 ((pl:Int)+16):=IT;obtain⟨v4,e41,Uc⟩:=hm.Jo (j:=4) (t:=41) rfl rfl (hp ⟨4,.data⟩ (by simp) rfl);obtain rfl:v4= .int .i64 (b.label:Int):=Uc;exact xQ rfl 221 #[.pointer (some ⟨O.mb,0,none⟩),.int .i64 ((pl:Int)+16),.int .i64 (b.label:Int),.int .i64 5] (by go_simp) (λv w'=>E9 (μ:=μ) O b.label s v w'/\RQ O μ W9 w') (Calls.mono (Sq.o W9 (hr HH0.o).has) λe w' h=>by obtain⟨u,h1,h2,h3⟩:=h;obtain⟨A,c,e1,Gh⟩:=eW h2;subst e1;exact⟨_,h1,⟨A,c,rfl,Gh,rE h2,λa ha=>(hr HH0.o).has.Fu (aF h2 (by rw[ha];rfl)).1,h3.has⟩,λ_=>h3⟩) (λv w' h=>hK v w' h.1 h.2)
      ·
       intro L9 a9 W9 hm hn hp hr K9 hK;obtain⟨v5,e42,hf5⟩:=hm.Jo (j:=5) (t:=42) rfl rfl (hp ⟨5,.data⟩ (by simp) rfl);obtain⟨A,c,e1,e2,e3,_,_⟩:=hf5;subst e1;have hcv:=uH (c:=c) XC.o e3 W9 e2;exact dg rfl (by go_simp) (hK _ _ rfl (RQ.below (Below.refl _ _)))
      ·
       intro L9 a9 W9 hm hn hp hr K9 hK;have e3:a9.tmps[3]? =some (.pointer (some ⟨b2,0,none⟩)):=(hm.IL hn (by rfl)).trans rfl;have y7:=(HKR.o W9 (hr HH0.o)).2.1;exact dg rfl (by go_simp) (hK _ _ rfl (RQ.below (Below.refl _ _)))
      ·
       intro L9 a9 W9 hm hn hp hr K9 hK;obtain⟨v6,e43,hf6⟩:=hm.Jo (j:=6) (t:=43) rfl rfl (hp ⟨6,.data⟩ (by simp) rfl);obtain rfl:v6= .string ⟨s.toArray⟩:=hf6;obtain⟨v7,e44,hf7⟩:=hm.Jo (j:=7) (t:=44) rfl rfl (hp ⟨7,.data⟩ (by simp) rfl);obtain rfl:v7= .string S:=hf7;have hq8:((ByteArray.mk s.toArray).toList==S.toList)=q:=HQ.o;have hs9:(ByteArray.mk s.toArray).toList=s:=by rw[ByteArray.toList_mk]
       have hq9:(s==S.toList)=q:=by rw[<-hq8,hs9]
       exact dg rfl (by go_simp) (hK _ _ rfl (RQ.below (Below.refl _ _)))
      ·
       intro L9 a9 W9 hm hn hp hr K9 hK;obtain⟨v8,e45,hf8⟩:=hm.Jo (j:=8) (t:=45) rfl rfl (hp ⟨8,.data⟩ (by simp) rfl);obtain rfl:v8= .bool q:=hf8;exact dg rfl (by go_simp) (hK _ _ rfl (RQ.below (Below.refl _ _)))
     ·intro vs w3 hF hR;have FT:=Fh (FK.o.drew.trans (hR HH0.o));have h9:vs 9= .bool q:=hF 9 (by decide);simp only [cw,Act.put,List.setIfInBounds_toArray,List.set_cons_zero,List.set_cons_succ,Nat.zero_add,Nat.reduceAdd];rw[h9];clear hF h9 hR HKR Sq;go_wp2;go_ret;exact⟨rfl,FT.o⟩
    ·have d4:((b.hash:Int) !=(hh:Int))=true:=by rw[bne_iff_ne];omega
     have hv:=HV.o;rw[if_pos (.inr (.inr (.inr t4)))]at hv;have HE:=Fh (Fk hv).symm;clear hv t1 t2 t3 t4;go_wp2;go_ret;exact⟨by rw[HE.o];rfl,FK.o⟩
   ·have d3:((b.label:Int) !=(l.length:Int))=true:=by rw[bne_iff_ne];omega
    have hv:=HV.o;rw[if_pos (.inr (.inr (.inl t3)))]at hv;have HE:=Fh (Fk hv).symm;clear hv t1 t2 t3;go_wp2;go_ret;exact⟨by rw[HE.o];rfl,FK.o⟩
  ·have d2:((b.name:Int) !=(up:Int))=true:=by rw[bne_iff_ne];omega
   have hv:=HV.o;rw[if_pos (.inr (.inl t2))]at hv;have HE:=Fh (Fk hv).symm;clear hv t1 t2;go_wp2;go_ret;exact⟨by rw[HE.o];rfl,FK.o⟩
 ·have d1:((b.tag:Int) !=2)=true:=by rw[bne_iff_ne];omega
  have hv:=HV.o;rw[if_pos (.inl t1)]at hv;have HE:=Fh (Fk hv).symm;clear hv t1;go_wp2;go_ret;exact⟨by rw[HE.o];rfl,FK.o⟩
end
section
variable{O:av}{μ:Mm}{w:World}
theorem BU(h:ao O μ w)(up hh r:Nat)(l:List UInt8)(hn:up<4294967296)(hl:l.length<1048576)(XX:hh<4294967296)(hv:eN hh (mH up l hh μ) μ=some r):
  Calls prog 246 #[.pointer (some ⟨O.mb,0,none⟩),.int .u32 (up:Int),.string ⟨l.toArray⟩,.int .u32 (hh:Int)] w λe w'=>e= .returned (.tuple #[.int .i64 (r:Int),.bool (decide (r≠0))])/\MG O w μ w':=by
 obtain⟨w1,FJ,FN,Nh,c0⟩:=uG w (.pointer (some ⟨O.mb,0,none⟩)) 68;obtain⟨w2,FL,FF,IU,c1⟩:=uG w1 (.int .u32 (up:Int)) 163;obtain⟨w3,F7,Gf,Il,c2⟩:=uG w2 (.string ⟨l.toArray⟩) 9;obtain⟨w4,Hn,Gk,Nf,c3⟩:=uG w3 (.int .u32 (hh:Int)) 163;rw[show w1.heap.size=w.heap.size+1 from Nh]at c1 IU;rw[IU]at c2 Il;rw[Il]at c3;have k0:w4.cell? ⟨w.heap.size,0,none⟩=some (.pointer (some ⟨O.mb,0,none⟩)):=by
  have a1:=(FF.cell (ap c0)).trans c0;have a2:=(Gf.cell (ap a1)).trans a1;exact(Gk.cell (ap a2)).trans a2
 have k1:w4.cell? ⟨w.heap.size+1,0,none⟩=some (.int .u32 (up:Int)):=by
  have a2:=(Gf.cell (ap c1)).trans c1;exact(Gk.cell (ap a2)).trans a2
 have k2:w4.cell? ⟨w.heap.size+1+1,0,none⟩=some (.string ⟨l.toArray⟩):=(Gk.cell (ap c2)).trans c2;have k3:w4.cell? ⟨w.heap.size+1+1+1,0,none⟩=some (.int .u32 (hh:Int)):=c3;have FW:Hid (MG O w μ w4):=Fh (((((MG.refl h).below FN).below FF).below Gf).below Gk);have KR:Hid (∀k,w.heap.size<=k->¬au O k):=Fh (λk hk=>h.Fu hk);have Ku:Hid (∀W,MG O w4 μ W->Calls prog 74 #[.pointer (some ⟨O.mb,0,none⟩)] W λe w'=>e= .returned (du O.mb μ.slots)/\MG O W μ w'):=Fh (λW hg=>(j7 hg.has).mono λe w' hq=>⟨hq.1,(MG.refl hg.has).below hq.2⟩);have Zc:Hid (∀W,MG O w4 μ W->Calls prog 255 #[du O.mb μ.slots,.agg #[.int .u32 (hh:Int),.func (.func 316) #[] #[.pointer (some ⟨w.heap.size,0,none⟩),.pointer (some ⟨w.heap.size+1,0,none⟩),.pointer (some ⟨w.heap.size+1+1,0,none⟩),.pointer (some ⟨w.heap.size+1+1+1,0,none⟩)]]] W λe w'=>e= .returned (.tuple #[.int .i64 (r:Int),.bool (decide (r≠0))])/\MG O W μ w'):=Fh (λW hg=>
  rD hg.has hh 316 #[] _ (mH up l hh μ) r XX (λv q W2 Gg RL hq=>by
   have FZ:=hg.trans Gg;exact BT FZ.has up hh v l q w.heap.size (w.heap.size+1) (w.heap.size+1+1) (w.heap.size+1+1+1) (FZ.kept.cell k0 (h.Fu (Fm _))) (FZ.kept.cell k1 (h.Fu (k:=w.heap.size+1) (by omega))) (FZ.kept.cell k2 (h.Fu (k:=w.heap.size+1+1) (by omega))) (FZ.kept.cell k3 (h.Fu (k:=w.heap.size+1+1+1) (by omega))) (h.Fu (Fm _)) (h.Fu (by omega)) (h.Fu (by omega)) (h.Fu (by omega)) RL hl hq) (enters_of func316 (by kernel_rfl) rfl) hv)
 obtain⟨bq,hbq⟩:=Fp (decide (r≠0));rw[<-hbq]at Zc⊢;clear hbq;have Gu:MG O w4 μ w4.drew/\w4.drew.cell? ⟨w.heap.size,0,none⟩=some (.pointer (some ⟨O.mb,0,none⟩))/\w4.drew.cell? ⟨w.heap.size+1+1+1,0,none⟩=some (.int .u32 (hh:Int)):=⟨(MG.refl FW.o.has).drew,k0,k3⟩;have T7:Hid (∀ {W W2:World},MG O w4 μ W/\W.cell? ⟨w.heap.size,0,none⟩=some (.pointer (some ⟨O.mb,0,none⟩))/\W.cell? ⟨w.heap.size+1+1+1,0,none⟩=some (.int .u32 (hh:Int))->MG O W μ W2->MG O w4 μ W2/\W2.cell? ⟨w.heap.size,0,none⟩=some (.pointer (some ⟨O.mb,0,none⟩))/\W2.cell? ⟨w.heap.size+1+1+1,0,none⟩=some (.int .u32 (hh:Int))):=Fh (λh k=>⟨h.1.trans k,k.kept.cell h.2.1 (KR.o _ (Fm _)),k.kept.cell h.2.2 (KR.o _ (by show _<=w.heap.size+1+1+1;omega))⟩);clear h hv FN FF Gf Gk c0 c1 c2 c3 k0 k1 k2 k3 Nh IU Il Nf;go_in;go_upto_region 1 with fail;rw[<-FJ];rw[<-FL];rw[<-F7];rw[<-Hn];clear FJ FL F7 Hn
 go_region_held3 (λw'=>MG O w4 μ w'/\w'.cell? ⟨w.heap.size,0,none⟩=some (.pointer (some ⟨O.mb,0,none⟩))/\w'.cell? ⟨w.heap.size+1+1+1,0,none⟩=some (.int .u32 (hh:Int)))
  (first|exact Gu|assumption|exact T7.o (by assumption) (by assumption))
  (first
   |((go_at_call 74;with_reducible refine(Ku.o _ (And.left (by assumption))).mono ?_);rintro e w5 ⟨rfl,IB⟩)
   |((go_at_call 255;with_reducible refine(Zc.o _ (And.left (by assumption))).mono ?_);rintro e w6 ⟨rfl,Hm⟩))
 all_goals
  have HX:Hid (MG O w μ w6):=Fh (FW.o.trans (And.left (by assumption)));clear Gu;go_wp2;go_ret2;exact⟨rfl,HX.o⟩
structure I9(O:av)(w:World)(tb n:Nat)(μ:Mm)(W:World):Prop where
 no:¬au O tb
 mg:MG O w μ W
 c0:W.cell? ⟨tb,0,none⟩=some (.pointer (some ⟨O.mb,0,none⟩))
 c1:W.cell? ⟨tb,1,none⟩=some (.int .i64 (n:Int))
theorem I9.next{tb n:Nat}{W W2:World}{μ1 μ2:Mm}(h:I9 O w tb n μ1 W)(k:MG O W μ2 W2):I9 O w tb n μ2 W2:=⟨h.no,h.mg.trans k,k.kept.cell h.c0 h.no,k.kept.cell h.c1 h.no⟩
theorem kO{i v:Nat}{μ':Mm}(h:cG i v μ=some μ'):μ'.slots=μ.slots:=by
 rw[(eY h).2.2]
theorem yh{fr:Nat}:∀ {i k g:Nat},qB μ fr i k=some (some g)->g<i+k
 |i,0,g,h=>by
  rw[qB]at h;cases h
 |i,k+1,g,h=>by
  rw[qB]at h;obtain⟨v,h1,h⟩:=Fi h;by_cases h0:v=0
  ·rw[if_pos h0]at h;have:=Fk (Fk h);omega
  ·rw[if_neg h0]at h;have:=yh h;omega
theorem yi(h:ao O μ w)(a:Nat)(μ':Mm)(ha:a<4294967296)(hv:iw a μ=some μ'):Calls prog 173 #[.pointer (some ⟨O.mb,0,none⟩),.int .i64 (a:Int)] w λe w'=>e= .returned (.int .i64 0)/\MG O w μ' w':=by
 unfold iw at hv;obtain⟨_,h1,hv⟩:=Fi hv;obtain⟨p,h2,hv⟩:=Fi hv;by_cases hp:p≠none
 ·rw[if_pos hp]at hv;cases hv
 rw[if_neg hp]at hv;have hp:p=none:=Classical.byContradiction hp;subst hp;obtain⟨hh,h3,hv⟩:=Fi hv;obtain⟨g,h4,hv⟩:=Fi hv;by_cases GK:g=none
 ·rw[if_pos GK]at hv;cases hv
 rw[if_neg GK]at hv;obtain⟨Ip,h5,hv⟩:=Fi hv;obtain⟨g2,h6,hv⟩:=Fi hv;cases g2 with
 |none=>cases hv
 |some g2=>
 dsimp only at hv;obtain⟨m1,h7,h8⟩:=Fi hv;cases g with
 |none=>exact absurd rfl GK
 |some g1=>
 have G5:=h.cf;obtain⟨n,hn⟩:=Fp μ.slots;have VK:n<=8192:=by have:=G5.2.2.1;omega
 have J0:0<n:=by omega
 have Ho:=λW (hg:MG O w μ W)=>mV hg.has a none ha h2;have Zd:=λW (hg:MG O w μ W)=>uA hg.has a hh ha h3;have Hb:=λW (hg:MG O w μ W)=>kl hg.has a ha h1;have hme:hh%μ.slots<n:=by rw[hn];exact Nat.mod_lt _ (by omega)
 obtain⟨home,hho⟩:=Fp (hh%μ.slots);rw[<-hho]at h4 h5 Zd hme;have Ze:=λW (hg:MG O w μ W)=>yg hg.has home (some g1) (by omega) h4;simp only [show rI none=(-1:Int)from rfl,show rI (some g1)=(g1:Int)from rfl,<-hn]at Ho Ze Hb Zd;have Jv:=Fh Ho;have HHM:=Fh Zd;have II:=Fh Hb;have HGP:=Fh Ze;have HN:=Fh hn;have Ku:=Fh (j7 h);have HH:=Fh h;have HW:Hid (gH μ home (n+1) 0=some Ip):=Fh (by rw[hn];exact h5);have H6:=Fh h6;have H7:=Fh h7;have H8:=Fh h8;have z1:((g1:Int)== -1)=false:=by rw[Fo];omega
 have hle:Hid (∀k,w.heap.size<=k->¬au O k):=Fh (λk hk=>h.Fu hk);clear h h1 h2 h3 h4 h5 h6 h7 h8 G5 hv hp GK hho Ho Zd Hb Ze hn;go_in;go_wp2_with fail;refine Ku.o.mono ?_;rintro e w1⟨rfl,hb⟩;have HL:Hid (w.heap.size<=w1.heap.size):=Fh hb.size;obtain⟨w2,FL,FF,x0,x1⟩:=Sv O.mb μ.slots w1;rw[<-HN.o]at FL x1;have SB:Hid (I9 O w w1.heap.size n μ w2):=Fh ⟨hle.out _ HL.o,((MG.refl HH.o).below hb).below FF,x0,x1⟩;have hl:=HL.o;rw[<-HN.o];clear hb FF;go_upto_region 2 with fail;rw[<-FL];clear FL;go_wp2_with fail;refine(II.o _ SB.o.mg).mono ?_;rintro e w3⟨rfl,hg⟩;have Pp:=Fh (SB.o.next hg);clear hg;have x0:=Pp.o.c0;have x1:=Pp.o.c1;go_wp2_with fail;refine(Jv.o _ Pp.o.mg).mono ?_;rintro e w4⟨rfl,hg⟩;have X0:=Fh (Pp.o.next hg);clear hg;have x0:=X0.o.c0;have x1:=X0.o.c1;go_wp2_with fail;refine(HHM.o _ X0.o.mg).mono ?_;rintro e w5⟨rfl,hg⟩;have NA:=Fh (X0.o.next hg);clear hg;have x0:=NA.o.c0;have x1:=NA.o.c1;go_wp2_with fail;refine(HGP.o _ NA.o.mg).mono ?_;rintro e w6⟨rfl,hg⟩;have PH:=Fh (NA.o.next hg);clear hg;have x0:=PH.o.c0;have x1:=PH.o.c1;go_wp2_with fail;have PE:Hid (home<=home/\home<=home+n+1/\gH μ home (home+n+1-home) (home-home)=some Ip):=Fh ⟨Fm _,by omega,by rw[show home+n+1-home=n+1 by omega,Nat.sub_self];exact HW.o⟩
 go_loopw [8] (λs8 wr=>∃q:Nat,s8= .int .i64 (q:Int)/\Hid (home<=q/\q<=home+n+1/\gH μ home (home+n+1-q) (q-home)=some Ip)/\Hid (I9 O w w1.heap.size n μ wr)) (λs8 _=>match s8 with| .int _ m=>home+n+1-m.toNat|_=>0)
 case atStart=>exact⟨home,rfl,PE,PH⟩
 case round=>
  obtain⟨q,rfl,HQ,ND⟩:=hrel;have x0:=ND.o.c0;have x1:=ND.o.c1;obtain⟨q1,q2,hf⟩:=HQ.o;by_cases hq:q=home+n+1
  ·rw[hq,Nat.sub_self,gH]at hf;cases hf
  rw[show home+n+1-q=(home+n-q)+1 by omega,gH,show home+(q-home)=q by omega]at hf;obtain⟨b,h1,hf⟩:=Fi hf;have LY:=rA ND.o.mg.has q (q-home) b (by omega) h1;rw[show((q-home:Nat):Int)=(q:Int)-(home:Int)by omega,<-HN.o]at LY;have LH:=Fh LY;cases b
  ·rw[if_neg (by simp)]at hf;have Up:Hid (home<=q+1/\q+1<=home+n+1/\gH μ home (home+n+1-(q+1)) (q+1-home)=some Ip):=Fh ⟨by omega,by omega,by rw[show home+n+1-(q+1)=home+n-q by omega,show q+1-home=q-home+1 by omega];exact hf⟩;clear LY h1 hf;go_wp2_with fail;refine LH.o.mono ?_;rintro e w7⟨rfl,hg⟩;have JU:=Fh (ND.o.next hg);clear hg;have x0:=JU.o.c0;have x1:=JU.o.c1;go_wp2;go_roundw
   case rel=>exact⟨q+1,by go_num,Up,JU⟩
   case measure=>simp;omega
  ·rw[if_pos rfl]at hf;have he:Ip=q:=by have:=Fk hf;omega
   subst he;clear LY h1 hf;have Ze:=λW (hg:MG O w μ W)=>yg hg.has Ip (some g2) (by omega) H6.o;simp only [show rI (some g2)=(g2:Int)from rfl,<-HN.o]at Ze;have HGP2:=Fh Ze;have Gg:g2<n:=by have:=yh H6.o;have:=HN.o;omega
   clear Ze;go_wp2_with fail;refine LH.o.mono ?_;rintro e w7⟨rfl,hg⟩;have JU:=Fh (ND.o.next hg);clear hg;have x0:=JU.o.c0;have x1:=JU.o.c1;go_wp2_with fail;refine(HGP2.o _ JU.o.mg).mono ?_;rintro e w8⟨rfl,hg⟩;have OD:=Fh (JU.o.next hg);clear hg;have x0:=OD.o.c0;have x1:=OD.o.c1;go_wp2_with fail;have QO:Hid (∃m,m.slots=n/\iv Ip g2 m=some m1/\I9 O w w1.heap.size n m w8):=Fh ⟨μ,HN.o.symm,H7.o,OD.o⟩
   go_loopw [9] (λs9 wr=>∃k:Nat,s9= .int .i64 (k:Int)/\k<n/\Hid (∃m,m.slots=n/\iv Ip k m=some m1/\I9 O w w1.heap.size n m wr)) (λs9 _=>match s9 with| .int _ m=>m.toNat|_=>0)
   case atStart=>exact⟨g2,rfl,Gg,QO⟩
   case round=>
    obtain⟨k,rfl,Zf,HS⟩:=hrel;obtain⟨m,hm,hsh,ht⟩:=HS.o;have x0:=ht.c0;have x1:=ht.c1;by_cases hk:k=0
    ·subst hk;rw[iv]at hsh;have hsh:=Fk hsh;subst hsh;have OE:=iJ ht.mg.has Ip a μ' (by omega) H8.o;rw[hm]at OE;have O8:=Fh OE;have ND:=Fh ht;rw[show((0:Nat):Int)=0 from rfl];clear OE hm ht;go_wp2_with fail;refine O8.o.mono ?_;rintro e w9⟨rfl,hg⟩;have PI:=Fh (ND.o.next hg);clear hg;have x0:=PI.o.c0;have x1:=PI.o.c1;go_wp2;go_ret;exact⟨rfl,PI.o.mg⟩
    ·obtain⟨j,hj⟩:∃j,k=j+1:=⟨k-1,by omega⟩;have c0:((k:Int)>0)=True:=by simp;omega
     have c1:decide ((k:Int)>0)=true:=by simp;omega
     rw[hj,iv,show Ip+j=Ip+k-1 by omega,show Ip+(j+1)=Ip+k by omega]at hsh;obtain⟨v,e1,hsh⟩:=Fi hsh;obtain⟨m2,e2,hsh⟩:=Fi hsh;have Ib:=λW (hs:I9 O w w1.heap.size n m W)=>(fO hs.mg.has (Ip+k-1) v (by omega) e1).mono λe w' hq=>(⟨_,hq.1,rfl,hs.next hq.2⟩:∃x,e= .returned x/\x= .int .i64 (v:Int)/\I9 O w w1.heap.size n m w');rw[hm,show((Ip+k-1:Nat):Int)=(Ip:Int)+(k:Int)-1 by omega]at Ib;have Gn:=Fh Ib;have Nv:=λW (hs:I9 O w w1.heap.size n m W)=>(iJ hs.mg.has (Ip+k) v m2 (by omega) e2).mono λe w' hq=>(⟨_,hq.1,rfl,hs.next hq.2⟩:∃x,e= .returned x/\x= .tuple #[]/\I9 O w w1.heap.size n m2 w');rw[hm,show((Ip+k:Nat):Int)=(Ip:Int)+(k:Int)by omega]at Nv;have O8:=Fh Nv;have Wr:Hid (m2.slots=n/\iv Ip (k-1) m2=some m1):=Fh ⟨by rw[kO e2,hm],by rw[show k-1=j by omega];exact hsh⟩;have hwr1:IntKind.i64.wrap ((Ip:Int)+(k:Int))=(Ip:Int)+(k:Int):=IntWalk.i64_in _ (by omega);have hwr2:IntKind.i64.wrap ((Ip:Int)+(k:Int)-1)=(Ip:Int)+(k:Int)-1:=IntWalk.i64_in _ (by omega);have Gu:I9 O w w1.heap.size n m wr.drew:=⟨ht.no,ht.mg.drew,x0,x1⟩;clear Ib Nv e1 e2 hsh hm hj ht HS;go_upto_region 16 with fail
     go_region_law (first
      |(refine aX rfl 186 #[du O.mb n,.int .i64 ((Ip:Int)+(k:Int)-1)] ?_ _ (Gn.o _ (by assumption)) ?_
        ·(go_simp;done)
        rintro v5 w5⟨rfl,Ik⟩;have d0:=Ik.c0;have d1:=Ik.c1)
      |(refine aX rfl 188 #[du O.mb n,.int .i64 ((Ip:Int)+(k:Int)),.int .i64 (v:Int)] ?_ _ (O8.o _ (by assumption)) ?_
        ·(go_simp;done)
        rintro v6 w6⟨rfl,OB⟩;have PJ:=Fh OB))
     all_goals
      go_wp2;go_roundw
      case rel=>exact⟨k-1,by go_num,by omega,Fh ⟨m2,Wr.o.1,Wr.o.2,PJ.o⟩⟩
      case measure=>simp;omega
end
section
variable{O:av}{μ:Mm}{w:World}
theorem jD{home:Nat}{is:Nat->Option Bool}(hn:0<μ.slots):∀ {k step i:Nat},dF μ home is k step=some (some i)->i<μ.slots
 |0,step,i,h=>by
  rw[dF]at h;cases h
 |k+1,step,i,h=>by
  rw[dF]at h;by_cases h0:step=μ.slots
  ·rw[if_pos h0]at h;cases h
  ·rw[if_neg h0]at h;obtain⟨b,h1,h⟩:=Fi h;cases b
   ·rw[if_neg (by simp)]at h;obtain⟨v,h2,h⟩:=Fi h;obtain⟨q,h3,h⟩:=Fi h;cases q
    ·rw[if_neg (by simp)]at h;exact jD hn h
    ·rw[if_pos rfl]at h;have:=Fk (Fk h);rw[<-this];exact Nat.mod_lt _ hn
   ·rw[if_pos rfl]at h;cases h
theorem uI{a i:Nat}(hn:0<μ.slots)(h:iu a μ=some (some i)):i<μ.slots:=by
 obtain⟨hh,h1,h⟩:=Fi h;exact jD hn h
theorem yj(h:ao O μ w)(a:Nat)(μ':Mm)(ha:a<4294967296)(hv:fa a μ=some μ'):Calls prog 104 #[.pointer (some ⟨O.mb,0,none⟩),.int .i64 (a:Int)] w λe w'=>e= .returned (.int .i64 0)/\MG O w μ' w':=by
 unfold fa at hv;obtain⟨_,h1,hv⟩:=Fi hv;obtain⟨p,h2,hv⟩:=Fi hv;cases p with
 |none=>cases hv
 |some i=>
 dsimp only at hv;obtain⟨⟨q1,q2⟩,h3,h4⟩:=Fi hv;dsimp only at h4;have G5:=h.cf;obtain⟨n,hn⟩:=Fp μ.slots;have VK:n<=8192:=by have:=G5.2.2.1;omega
 have J0:0<n:=by omega
 have GU:i<n:=by rw[hn];exact uI (by omega) h2
 have Ho:=λW (hg:MG O w μ W)=>mV hg.has a (some i) ha h2;have Hb:=λW (hg:MG O w μ W)=>kl hg.has a ha h1;simp only [show rI (some i)=(i:Int)from rfl,<-hn]at Ho Hb;have Jv:=Fh Ho;have II:=Fh Hb;have HN:=Fh hn;have Ku:=Fh (j7 h);have HH:=Fh h;have HB:Hid (J3 (n-1-0) i μ=some (q1,q2)):=Fh (by rw[hn];exact h3);have H4:=Fh h4;have z1:((i:Int)== -1)=false:=by rw[Fo];omega
 have hle:Hid (∀k,w.heap.size<=k->¬au O k):=Fh (λk hk=>h.Fu hk);clear h h1 h2 h3 h4 G5 hv Ho Hb hn;go_in;go_wp2_with fail;refine Ku.o.mono ?_;rintro e w1⟨rfl,hb⟩;have HL:Hid (w.heap.size<=w1.heap.size):=Fh hb.size;obtain⟨w2,FL,FF,x0,x1⟩:=Sv O.mb μ.slots w1;rw[<-HN.o]at FL x1;have SB:Hid (I9 O w w1.heap.size n μ w2):=Fh ⟨hle.out _ HL.o,((MG.refl HH.o).below hb).below FF,x0,x1⟩;have hl:=HL.o;rw[<-HN.o];clear hb FF;go_upto_region 2 with fail;rw[<-FL];clear FL;go_wp2_with fail;refine(II.o _ SB.o.mg).mono ?_;rintro e w3⟨rfl,hg⟩;have Pp:=Fh (SB.o.next hg);clear hg;have x0:=Pp.o.c0;have x1:=Pp.o.c1;go_wp2_with fail;refine(Jv.o _ Pp.o.mg).mono ?_;rintro e w4⟨rfl,hg⟩;have X0:=Fh (Pp.o.next hg);clear hg;have x0:=X0.o.c0;have x1:=X0.o.c1;go_wp2_with fail;have QO:Hid (∃m,m.slots=n/\J3 (n-1-0) i m=some (q1,q2)/\I9 O w w1.heap.size n m w4):=Fh ⟨μ,HN.o.symm,HB.o,X0.o⟩
 go_loopw [7,24] (λs7 s24 wr=>∃c j:Nat,s7= .int .i64 (j:Int)/\s24= .int .i64 (c:Int)/\c<n/\j<n+c/\Hid (∃m,m.slots=n/\J3 (n-1-c) j m=some (q1,q2)/\I9 O w w1.heap.size n m wr)) (λ_ s24 _=>match s24 with| .int _ m=>n-m.toNat|_=>0)
 case atStart=>exact⟨0,i,rfl,rfl,J0,by omega,QO⟩
 case round=>
  obtain⟨c,j,rfl,rfl,Tq,Ul,HS⟩:=hrel;obtain⟨m,hm,Jg,ht⟩:=HS.o;have x0:=ht.c0;have x1:=ht.c1;have ND:=Fh ht;by_cases hc:c=n-1
  ·rw[hc,Nat.sub_self,J3]at Jg;cases Jg;have OE:=iJ ht.mg.has q1 0 μ' (by omega) H4.o;rw[hm]at OE;have O8:=Fh OE;have c0:decide ((c:Int)<(n:Int)-1)=false:=by simp;omega
   clear OE hm ht hc HS;go_wp2_with fail;refine O8.o.mono ?_;rintro e w9⟨rfl,hg⟩;have PI:=Fh (ND.o.next hg);clear hg;have x0:=PI.o.c0;have x1:=PI.o.c1;go_wp2;go_ret;exact⟨rfl,PI.o.mg⟩
  ·have KQ:c+1<n:=by omega
   have c0:decide ((c:Int)<(n:Int)-1)=true:=by simp;omega
   rw[show n-1-c=(n-1-(c+1))+1 by omega,J3]at Jg;obtain⟨v,e1,Jg⟩:=Fi Jg;have Ib:=λW (hg:I9 O w w1.heap.size n m W)=>fO hg.mg.has (j+1) v (by omega) e1;simp only [hm,show((j+1:Nat):Int)=(j:Int)+1 by omega]at Ib;have Gn:=Fh Ib;clear Ib;by_cases Qi:v=0
   ·rw[if_pos Qi]at Jg;cases Jg;have OE:=λW (hg:I9 O w w1.heap.size n q2 W)=>iJ hg.mg.has q1 0 μ' (by omega) H4.o;simp only [hm]at OE;have O8:=Fh OE;have zv:((v:Int)==0)=true:=by rw[Qi];rfl
    clear OE hm ht hc HS Qi e1;go_wp2_with fail;refine(Gn.o _ ND.o).mono ?_;rintro e w5⟨rfl,hg⟩;have NA:=Fh (ND.o.next hg);clear hg;have x0:=NA.o.c0;have x1:=NA.o.c1;go_wp2_with fail;refine(O8.o _ NA.o).mono ?_;rintro e w6⟨rfl,hg⟩;have PH:=Fh (NA.o.next hg);clear hg;have x0:=PH.o.c0;have x1:=PH.o.c1;go_wp2;go_ret;exact⟨rfl,PH.o.mg⟩
   ·rw[if_neg Qi]at Jg;have zv:((v:Int)==0)=false:=by rw[Fo];omega
    obtain⟨d,e2,Jg⟩:=Fi Jg;have LZ:=λW (hg:I9 O w w1.heap.size n m W)=>yb hg.mg.has (j+1) d (by omega) e2;simp only [hm,show((j+1:Nat):Int)=(j:Int)+1 by omega]at LZ;have HFA:=Fh LZ;clear LZ;by_cases Qs:d=0
    ·rw[if_pos Qs]at Jg;cases Jg;have OE:=λW (hg:I9 O w w1.heap.size n q2 W)=>iJ hg.mg.has q1 0 μ' (by omega) H4.o;simp only [hm]at OE;have O8:=Fh OE;have zd:((d:Int)==0)=true:=by rw[Qs];rfl
     clear OE hm ht hc HS Qi e1 e2 Qs;go_wp2_with fail;refine(Gn.o _ ND.o).mono ?_;rintro e w5⟨rfl,hg⟩;have NA:=Fh (ND.o.next hg);clear hg;have x0:=NA.o.c0;have x1:=NA.o.c1;go_wp2_with fail;refine(HFA.o _ NA.o).mono ?_;rintro e w6⟨rfl,hg⟩;have PH:=Fh (NA.o.next hg);clear hg;have x0:=PH.o.c0;have x1:=PH.o.c1;go_wp2_with fail;refine(O8.o _ PH.o).mono ?_;rintro e w7⟨rfl,hg⟩;have JU:=Fh (PH.o.next hg);clear hg;have x0:=JU.o.c0;have x1:=JU.o.c1;go_wp2;go_ret;exact⟨rfl,JU.o.mg⟩
    ·rw[if_neg Qs]at Jg;have zd:((d:Int)==0)=false:=by rw[Fo];omega
     obtain⟨m2,e3,Jg⟩:=Fi Jg;have X4:=λW (hs:I9 O w w1.heap.size n m W)=>(Gn.o W hs).mono λe w' hq=>(⟨_,hq.1,rfl,hs.next hq.2⟩:∃x,e= .returned x/\x= .int .i64 (v:Int)/\I9 O w w1.heap.size n m w');have Zg:=Fh X4;have Nv:=λW (hs:I9 O w w1.heap.size n m W)=>(iJ hs.mg.has j v m2 (by omega) e3).mono λe w' hq=>(⟨_,hq.1,rfl,hs.next hq.2⟩:∃x,e= .returned x/\x= .tuple #[]/\I9 O w w1.heap.size n m2 w');rw[hm]at Nv;have O8:=Fh Nv;have Wr:Hid (m2.slots=n/\J3 (n-1-(c+1)) (j+1) m2=some (q1,q2)):=Fh ⟨by rw[kO e3,hm],Jg⟩;have hwr1:IntKind.i64.wrap ((j:Int)+1)=(j:Int)+1:=IntWalk.i64_in _ (by omega);clear X4 Nv e1 e2 e3 Jg hm hc ht HS Qi Qs;go_wp2_with fail;refine(Gn.o _ ND.o).mono ?_;rintro e w5⟨rfl,hg⟩;have NA:=Fh (ND.o.next hg);clear hg;have x0:=NA.o.c0;have x1:=NA.o.c1;go_wp2_with fail;refine(HFA.o _ NA.o).mono ?_;rintro e w6⟨rfl,hg⟩;have PH:=Fh (NA.o.next hg);clear hg;have x0:=PH.o.c0;have x1:=PH.o.c1;have Gu:I9 O w w1.heap.size n m w6.drew:=⟨PH.o.no,PH.o.mg.drew,x0,x1⟩;go_upto_region 11 with fail
     go_region_law (first
      |(refine aX rfl 186 #[du O.mb n,.int .i64 ((j:Int)+1)] ?_ _ (Zg.o _ (by assumption)) ?_
        ·(go_simp;done)
        rintro v5 w5⟨rfl,Ik⟩;have d0:=Ik.c0;have d1:=Ik.c1)
      |(refine aX rfl 188 #[du O.mb n,.int .i64 (j:Int),.int .i64 (v:Int)] ?_ _ (O8.o _ (by assumption)) ?_
        ·(go_simp;done)
        rintro v6 w6⟨rfl,OB⟩;have PJ:=Fh OB))
     all_goals
      go_wp2;go_roundw
      case rel=>exact⟨c+1,j+1,by go_num,by go_num,by omega,by omega,Fh ⟨m2,Wr.o.1,Wr.o.2,PJ.o⟩⟩
      case measure=>simp;omega
end
section
variable{O:av}{μ:Mm}{w:World}
theorem DD(h:ao O μ w)(fr Ip:Nat)(μ':Mm)(ha:fr<4294967296)(hb:Ip<4294967296)(hv:jW fr Ip μ=some μ'):Calls prog 217 #[.pointer (some ⟨O.mb,0,none⟩),.int .i64 (fr:Int),.int .i64 (Ip:Int)] w λe w'=>e= .returned (.int .i64 0)/\MG O w μ' w':=by
 unfold jW at hv;obtain⟨_,h1,hv⟩:=Fi hv;obtain⟨_,h2,hv⟩:=Fi hv;obtain⟨hh,h3,hv⟩:=Fi hv;obtain⟨hh2,h4,hv⟩:=Fi hv;by_cases hne:hh≠hh2
 ·rw[if_pos hne]at hv;cases hv
 rw[if_neg hne]at hv;have hne:hh=hh2:=Classical.byContradiction hne;subst hne;obtain⟨p,h5,hv⟩:=Fi hv;cases p with
 |none=>cases hv
 |some i=>
 dsimp only at hv;have G5:=h.cf;obtain⟨n,hn⟩:=Fp μ.slots;have VK:n<=8192:=by have:=G5.2.2.1;omega
 have J0:0<n:=by omega
 have GU:i<n:=by rw[hn];exact uI (by omega) h5
 have Ho:=λW (hg:MG O w μ W)=>mV hg.has fr (some i) ha h5;have FN:=λW (hg:MG O w μ W)=>kl hg.has fr ha h1;have FF:=λW (hg:MG O w μ W)=>kl hg.has Ip hb h2;have Uq:=λW (hg:MG O w μ W)=>jy hg.has fr hh ha h3;have Ts:=λW (hg:MG O w μ W)=>jy hg.has Ip hh hb h4;have OE:=λW (hg:MG O w μ W)=>iJ hg.has i Ip μ' (by omega) hv;simp only [show rI (some i)=(i:Int)from rfl,<-hn]at Ho FN FF Uq Ts OE;have Jv:=Fh Ho;have GH:=Fh FN;have Gx:=Fh FF;have HA1:=Fh Uq;have HA2:=Fh Ts;have O8:=Fh OE;have HN:=Fh hn;have Ku:=Fh (j7 h);have HH:=Fh h;have z1:((i:Int)== -1)=false:=by rw[Fo];omega
 have z2:((hh:Int) !=(hh:Int))=false:=by simp
 have hle:Hid (∀k,w.heap.size<=k->¬au O k):=Fh (λk hk=>h.Fu hk);clear h h1 h2 h3 h4 h5 G5 hv Ho FN FF Uq Ts OE hn;go_in;go_wp2_with fail;refine Ku.o.mono ?_;rintro e w1⟨rfl,hb⟩;have HL:Hid (w.heap.size<=w1.heap.size):=Fh hb.size;obtain⟨w2,FL,FF,x0,x1⟩:=Sv O.mb μ.slots w1;rw[<-HN.o]at FL x1;have SB:Hid (I9 O w w1.heap.size n μ w2):=Fh ⟨hle.out _ HL.o,((MG.refl HH.o).below hb).below FF,x0,x1⟩;have hl:=HL.o;rw[<-HN.o];clear hb FF;go_upto_region 2 with fail;rw[<-FL];clear FL;go_upto_region 3 with fail;obtain⟨w3,F7⟩:=Fp (w2.alloc (.cells #[.int .i64 (fr:Int),.int .i64 (Ip:Int)] 3));have Gf:Below w2.heap.size w2 w3:=by rw[F7];exact(Below.refl _ w2).alloc (Fm _) _
 have y0:w3.cell? ⟨w2.heap.size,0,none⟩=some (.int .i64 (fr:Int)):=by rw[F7];exact(Whole.new w2 _ _).cell 0
 have y1:w3.cell? ⟨w2.heap.size,1,none⟩=some (.int .i64 (Ip:Int)):=by rw[F7];exact(Whole.new w2 _ _).cell 1
 have KR:Hid (¬au O w2.heap.size):=Fh (hle.out _ (Nat.le_trans HL.o (Nat.le_of_lt (ap SB.o.c0))));have HY0:Hid (I9 O w w1.heap.size n μ w3/\w3.cell? ⟨w2.heap.size,0,none⟩=some (.int .i64 (fr:Int))/\w3.cell? ⟨w2.heap.size,1,none⟩=some (.int .i64 (Ip:Int))):=Fh ⟨SB.o.next ((MG.refl SB.o.mg.has).below Gf),y0,y1⟩;clear Gf y0 y1 x0 x1;rw[<-F7];clear F7
 go_loopw [6,9,10,18] (λs6 _ _ T8 wr=>∃c:Nat,c<=2/\s6= .int .i64 0/\T8= .int .i64 (c:Int)/\Hid (I9 O w w1.heap.size n μ wr/\wr.cell? ⟨w2.heap.size,0,none⟩=some (.int .i64 (fr:Int))/\wr.cell? ⟨w2.heap.size,1,none⟩=some (.int .i64 (Ip:Int)))) (λ_ _ _ T8 _=>match T8 with| .int _ m=>2-m.toNat|_=>0)
 case atStart=>exact⟨0,by omega,rfl,rfl,HY0⟩
 case round=>
  obtain⟨c,hc,rfl,rfl,HY⟩:=hrel;have x0:=HY.o.1.c0;have x1:=HY.o.1.c1;have y0:=HY.o.2.1;have y1:=HY.o.2.2;by_cases h0:c=0
  ·subst h0;rw[show((0:Nat):Int)=0 from rfl];go_wp2_with fail;refine(GH.o _ HY.o.1.mg).mono ?_;rintro e w4⟨rfl,hg⟩;have HY4:Hid (I9 O w w1.heap.size n μ w4/\w4.cell? ⟨w2.heap.size,0,none⟩=some (.int .i64 (fr:Int))/\w4.cell? ⟨w2.heap.size,1,none⟩=some (.int .i64 (Ip:Int))):=Fh ⟨HY.o.1.next hg,hg.kept.cell HY.o.2.1 KR.o,hg.kept.cell HY.o.2.2 KR.o⟩;clear hg;go_wp2;go_roundw
   case rel=>exact⟨1,by omega,rfl,rfl,HY4⟩
   case measure=>simp
  by_cases h1:c=1
  ·subst h1;rw[show((1:Nat):Int)=1 from rfl];go_wp2_with fail;refine(Gx.o _ HY.o.1.mg).mono ?_;rintro e w4⟨rfl,hg⟩;have HY4:Hid (I9 O w w1.heap.size n μ w4/\w4.cell? ⟨w2.heap.size,0,none⟩=some (.int .i64 (fr:Int))/\w4.cell? ⟨w2.heap.size,1,none⟩=some (.int .i64 (Ip:Int))):=Fh ⟨HY.o.1.next hg,hg.kept.cell HY.o.2.1 KR.o,hg.kept.cell HY.o.2.2 KR.o⟩;clear hg;go_wp2;go_roundw
   case rel=>exact⟨2,by omega,rfl,rfl,HY4⟩
   case measure=>simp
  have h2:c=2:=by omega
  subst h2;rw[show((2:Nat):Int)=2 from rfl];have Gu:I9 O w w1.heap.size n μ wr.drew:=⟨HY.o.1.no,HY.o.1.mg.drew,x0,x1⟩;have T7:Hid (∀ {W W2:World},I9 O w w1.heap.size n μ W->MG O W μ W2->I9 O w w1.heap.size n μ W2):=Fh (λh k=>h.next k);have VH:Hid (∀ {W:World},I9 O w w1.heap.size n μ W->MG O w μ W):=Fh (λh=>h.mg);have HA1':Hid (∀W,I9 O w w1.heap.size n μ W->Calls prog 278 #[du O.mb n,.int .i64 (fr:Int)] W λe w'=>(∃x,e= .returned x/\x= .int .u32 (hh:Int)/\I9 O w w1.heap.size n μ w')):=Fh (λW hs=>(HA1.o W hs.mg).mono λe w' hq=>⟨_,hq.1,rfl,hs.next hq.2⟩);have HA2':Hid (∀W,I9 O w w1.heap.size n μ W->Calls prog 278 #[du O.mb n,.int .i64 (Ip:Int)] W λe w'=>(∃x,e= .returned x/\x= .int .u32 (hh:Int)/\I9 O w w1.heap.size n μ w')):=Fh (λW hs=>(HA2.o W hs.mg).mono λe w' hq=>⟨_,hq.1,rfl,hs.next hq.2⟩);go_upto_region 9 with fail
  go_region_law (first
   |(refine aX rfl 278 #[du O.mb n,.int .i64 (fr:Int)] ?_ _ (HA1'.o _ (by assumption)) ?_
     ·(go_simp;done)
     rintro v5 w5⟨rfl,Ik⟩;have d0:=Ik.c0;have d1:=Ik.c1)
   |(refine aX rfl 278 #[du O.mb n,.int .i64 (Ip:Int)] ?_ _ (HA2'.o _ (by assumption)) ?_
     ·(go_simp;done)
     rintro v6 w6⟨rfl,OB⟩;have d0:=OB.c0;have d1:=OB.c1))
  all_goals
   go_wp2_with fail;refine(Jv.o _ (I9.mg (tb:=w1.heap.size) (n:=n) (by assumption))).mono ?_;rintro e w7⟨rfl,hg⟩;have JU:Hid (I9 O w w1.heap.size n μ w7):=Fh (I9.next (μ1:=μ) (by assumption) hg);have x0:=JU.o.c0;have x1:=JU.o.c1;clear hg;go_wp2_with fail;refine(O8.o _ JU.o.mg).mono ?_;rintro e w8⟨rfl,hg⟩;have OD:=Fh (JU.o.next hg);clear hg;have x0:=OD.o.c0;have x1:=OD.o.c1;go_wp2;go_ret;exact⟨rfl,OD.o.mg⟩
end
section
variable{O:av}{μ:Mm}{w:World}
theorem uJ{s c:Nat}{x x':Sl}{m1:Mm}(h:ir s c x μ=some (x',m1))(hx:x.free<4294967296)(ha:ax μ s+1024<4294967296):x'.free<4294967296/\x'.live=x.live:=by
 unfold ir at h;obtain⟨_,_,h⟩:=Fi h;obtain⟨_,_,h⟩:=Fi h;obtain⟨_,_,h⟩:=Fi h;obtain⟨q,h4,h⟩:=Fi h;obtain⟨_,_,h⟩:=Fi h;obtain⟨_,_,h⟩:=Fi h;have h:=Fk h;have hl:=lg h4 hx (by have:=(bF c).2;omega);obtain rfl: {x with Ft:=c,free:=q.1}=x':=congrArg Prod.fst h;exact⟨hl,rfl⟩
theorem pa(h:ao O μ w)(c a er:Nat)(μ':Mm)(hv:dd c μ=some ((a,er),μ')):Calls prog 211 #[.pointer (some ⟨O.mb,0,none⟩),.int .i64 (c:Int)] w λe w'=>e= .returned (.tuple #[.int .i64 (a:Int),.int .i64 (er:Int)])/\MG O w μ' w':=by
 unfold dd at hv;by_cases hc:1<=c/\c<=9
 case neg=>rw[if_neg hc]at hv;cases hv
 rw[if_pos hc]at hv;obtain⟨f,h1,hv⟩:=Fi hv;have Uc:f<4294967296:=aU h1 (by omega);have G5:=h.cf;have FE:Hid (MG O w μ w):=Fh (MG.refl h);have HC:=Fh (aD h);have F8:1<=ae c:=by have:=o6 hc;omega
 have IA:=Fh (λW (hg:MG O w μ W)=>sW c W hg.has.env.Hk);have Qt:=λW (hg:MG O w μ W)=>rv hg.has c f (by omega) h1;obtain⟨sz,Sw⟩:=Fp (ae c);rw[<-Sw]at IA F8;have z:¬((μ.Fq:Int)=0):=by omega
 have z2:¬(μ.Fq=0):=by omega
 have z3:((sz:Int)==0)=false:=by rw[Fo];omega
 by_cases h0:f=0
 ·rw[if_neg (by simp[h0])]at hv;obtain⟨g,h2,hv⟩:=Fi hv;have F9:g<4294967296:=aU h2 (by omega);have JG:=λW (hg:MG O w μ W)=>rv hg.has 0 g (by omega) h2;simp only [h0,show((0:Nat):Int)-1= -1 from rfl]at Qt;have Lf:=Fh Qt;by_cases g0:g=0
  ·rw[if_pos g0]at hv;have hv:=Fk hv;obtain⟨rfl,rfl,rfl⟩:0=a/\5=er/\μ=μ':=⟨congrArg (·.1.1) hv,congrArg (·.1.2) hv,congrArg Prod.snd hv⟩;simp only [g0,show((0:Nat):Int)-1= -1 from rfl]at JG;have Q7:=Fh JG;clear h h1 h2 hv G5 Sw h0 g0 Qt JG;go_in;go_wp2_with fail;refine HC.o.mono ?_;rintro e w1⟨rfl,hb⟩;have FA:=Fh (FE.o.below hb);clear hb;go_wp2_with fail;refine(IA.o _ FA.o).mono ?_;rintro e w2⟨rfl,rfl⟩;go_wp2_with fail;refine(Lf.o _ FA.o).mono ?_;rintro e w3⟨rfl,hg⟩;have FT:=Fh (FA.o.trans hg);clear hg;go_wp2_with fail;refine(Q7.o _ FT.o).mono ?_;rintro e w4⟨rfl,hg⟩;have FW:=Fh (FT.o.trans hg);clear hg;go_wp2;go_ret2;exact⟨rfl,FW.o⟩
  ·rw[if_neg g0]at hv;obtain⟨x,h3,hv⟩:=Fi hv;obtain⟨⟨x',m1⟩,h4,hv⟩:=Fi hv;obtain⟨⟨a',m2⟩,h5,hv⟩:=Fi hv;dsimp only at h5 hv;have hv:=Fk hv;obtain⟨rfl,rfl,rfl⟩:a'=a/\0=er/\m2=μ':=⟨congrArg (·.1.1) hv,congrArg (·.1.2) hv,congrArg Prod.snd hv⟩;obtain⟨s,PK⟩:=Fp (g-1);rw[<-PK]at h3 h4 h5;simp only [show(g:Int)-1=(s:Int)by omega]at JG;have Q7:=Fh JG;have c3:((s:Int)== -1)=false:=by rw[Fo];omega
   obtain⟨hs,Q5,MM,Tn,_,_⟩:=iI h3;have Ku:=Fh (λW (hg:MG O w μ W)=>oU hg.has s x h3);have HCV:=Fh (λpb W0 W (hp:PG O W0 pb s (ax μ s) x μ W)=>zL hp.has pb s c x x' m1 hp.pt hc Tn hs h4);obtain⟨GF,QX⟩:=uJ h4 Tn (by have:=kf h.ok hs;omega);have So:=Fh (λpb W0 W (hp:PG O W0 pb s (ax μ s) x' m1 W)=>yf hp.has pb s (ax μ s) a' x' m2 hp.pt GF (by rw[QX];exact MM) (by have:=(rC h4).1;dsimp only at this;omega) h5);obtain⟨at0,GG⟩:=Fp (ax μ s);rw[<-GG]at Ku HCV So;clear h h1 h2 h3 h4 h5 hv G5 Sw h0 g0 Qt JG PK GG;go_in;go_wp2_with fail;refine HC.o.mono ?_;rintro e w1⟨rfl,hb⟩;have FA:=Fh (FE.o.below hb);clear hb;go_wp2_with fail;refine(IA.o _ FA.o).mono ?_;rintro e w2⟨rfl,rfl⟩;go_wp2_with fail;refine(Lf.o _ FA.o).mono ?_;rintro e w3⟨rfl,hg⟩;have FT:=Fh (FA.o.trans hg);clear hg;go_wp2_with fail;refine(Q7.o _ FT.o).mono ?_;rintro e w4⟨rfl,hg⟩;have FW:=Fh (FT.o.trans hg);clear hg;go_wp2_with fail;refine(Ku.o _ FW.o).mono ?_;rintro e w5⟨rfl,hg⟩;have Gj:=Fh (FW.o.trans hg);clear hg;obtain⟨w,hw,I3,KD⟩:=jz Gj.o.has s at0 x;obtain⟨pb,Kv⟩:=Fp w5.heap.size;rw[<-Kv]at KD;have Kg:=Fh KD;have Q8:=Fh I3;have To:Hid (w5.heap.size<=pb):=Fh (by omega);clear KD I3;unfold Ha at hw⊢;go_upto_region 13 with fail;rw[<-hw,<-Kv];clear hw Kv;go_wp2_with fail;refine(HCV.o _ _ _ Kg.o).mono ?_;rintro e w7⟨rfl,hp7⟩;have LI:=Fh (Kg.o.trans hp7);clear hp7;go_wp2_with fail;refine(So.o _ _ _ LI.o).mono ?_;rintro e w8⟨rfl,V7,KM⟩;have HH8:=Fh V7;have Qm:=Fh KM;clear V7 KM;go_wp2;go_ret2;exact⟨rfl,Gj.o.trans (o7 Q8.o To.o HH8.o (LI.o.kept.trans Qm.o))⟩
 ·rw[if_pos h0]at hv;obtain⟨x,h3,hv⟩:=Fi hv;obtain⟨⟨a',m2⟩,h5,hv⟩:=Fi hv;dsimp only at h5 hv;have hv:=Fk hv;obtain⟨rfl,rfl,rfl⟩:a'=a/\0=er/\m2=μ':=⟨congrArg (·.1.1) hv,congrArg (·.1.2) hv,congrArg Prod.snd hv⟩;obtain⟨s,PK⟩:=Fp (f-1);rw[<-PK]at h3 h5;simp only [show(f:Int)-1=(s:Int)by omega]at Qt;have Lf:=Fh Qt;have c3:((s:Int) != -1)=true:=by rw[bne_iff_ne];omega
  obtain⟨hs,Q5,MM,Tn,_,_⟩:=iI h3;have Ku:=Fh (λW (hg:MG O w μ W)=>oU hg.has s x h3);have So:=Fh (λpb W0 W (hp:PG O W0 pb s (ax μ s) x μ W)=>yf hp.has pb s (ax μ s) a' x m2 hp.pt Tn MM hs h5);obtain⟨at0,GG⟩:=Fp (ax μ s);rw[<-GG]at Ku So;clear h h1 h3 h5 hv G5 Sw h0 Qt PK GG;go_in;go_wp2_with fail;refine HC.o.mono ?_;rintro e w1⟨rfl,hb⟩;have FA:=Fh (FE.o.below hb);clear hb;go_wp2_with fail;refine(IA.o _ FA.o).mono ?_;rintro e w2⟨rfl,rfl⟩;go_wp2_with fail;refine(Lf.o _ FA.o).mono ?_;rintro e w3⟨rfl,hg⟩;have FT:=Fh (FA.o.trans hg);clear hg;go_wp2_with fail;refine(Ku.o _ FT.o).mono ?_;rintro e w5⟨rfl,hg⟩;have Gj:=Fh (FT.o.trans hg);clear hg;obtain⟨w,hw,I3,KD⟩:=jz Gj.o.has s at0 x;obtain⟨pb,Kv⟩:=Fp w5.heap.size;rw[<-Kv]at KD;have Kg:=Fh KD;have Q8:=Fh I3;have To:Hid (w5.heap.size<=pb):=Fh (by omega);clear KD I3;unfold Ha at hw⊢;go_upto_region 8 with fail;rw[<-hw,<-Kv];clear hw Kv;go_wp2_with fail;refine(So.o _ _ _ Kg.o).mono ?_;rintro e w8⟨rfl,V7,KM⟩;have HH8:=Fh V7;have Qm:=Fh KM;clear V7 KM;go_wp2;go_ret2;exact⟨rfl,Gj.o.trans (o7 Q8.o To.o HH8.o Qm.o)⟩
end
section
variable{O:av}{μ:Mm}{w:World}
theorem pc(h:ao O μ w)(p:Nat)(μ':Mm)(hv:jf p μ=some μ'):Calls prog 105 #[.pointer (some ⟨O.mb,0,none⟩),.int .i64 (p:Int)] w λe w'=>e= .returned (.int .i64 0)/\MG O w μ' w':=by
 unfold jf at hv;obtain⟨⟨s,b⟩,h1,hv⟩:=Fi hv;dsimp only at hv;by_cases hb:b=p
 case neg=>rw[if_pos hb]at hv;cases hv
 subst hb;rw[if_neg (λe=>e rfl)]at hv;obtain⟨x,h2,hv⟩:=Fi hv;by_cases hk:μ.FH b (ae x.Ft)=5
 case neg=>rw[if_pos hk]at hv;cases hv
 rw[if_neg (λe=>e hk)]at hv;obtain⟨m1,e1,hv⟩:=Fi hv;obtain⟨m2,e2,hv⟩:=Fi hv;obtain⟨m3,e3,hv⟩:=Fi hv;obtain⟨m4,e4,hv⟩:=Fi hv;by_cases RO:x.live=0
 case pos=>rw[if_pos RO]at hv;cases hv
 rw[if_neg RO]at hv;obtain⟨m5,e5,e6⟩:=Fi hv;obtain⟨g1,g2,g3,x',GD,GN,IY,FR,Ws⟩:=jA h1;rw[h2]at GD;obtain rfl:=Fk GD;obtain⟨hs,Q5,MM,Tn,_,_⟩:=iI h2;have G5:=h.cf;have PD:=o6 ⟨GN,IY⟩;have GU:=dT hk (by omega);have Y7:=(kf h.ok hs).2;have sl1:=(ta e1).1;have sl2:=(fh e2).1;have sl3:=(oY e3 td).1;have sl4:=(oZ e4).1;have sl5:=(fP e5).1;have sa1:=(ta e1).trans ((fh e2).trans ((oY e3 td).trans ((oZ e4).trans (fP e5))));have FE:Hid (MG O w μ w):=Fh (MG.refl h);have HC:=Fh (aD h);have II:=Fh (λW (hg:MG O w μ W)=>kh hg.has b s b h1);have Ku:=Fh (λW (hg:MG O w μ W)=>oU hg.has s x h2);obtain⟨a,ha⟩:=Fp (ax μ s);have VN:Hid (∀pb W0 W,PG O W0 pb s a x μ W->Calls prog 191 #[.agg (Ha O.mb s a x),.int .i64 (b:Int)] W λe w'=>e= .returned (.bool true)/\PG O W0 pb s a x μ w'):=Fh (λpb W0 W hs=>by
  have:=hs.Kh (ul hs.has s a b x ⟨GN,IY⟩ GU);rw[hk]at this;exact this)
 obtain⟨sz,F8⟩:=Fp (ae x.Ft);have IA:Hid (∀m pb W0 W,PG O W0 pb s a x m W->Calls prog 192 #[.agg (Ha O.mb s a x)] W λe w'=>e= .returned (.int .i64 (sz:Int))/\PG O W0 pb s a x m w'):=Fh (λm pb W0 W hs=>by rw[F8];exact hs.Kh (ju O.mb s a x W hs.has.env.Hk));rw[<-F8]at e1 e2 PD;rw[<-ha]at Ku;have HZE:=Fh (λW (hh:ao O μ W)=>lL hh b sz 5 m1 (by omega) e1);have Td:=Fh (λW (hh:ao O m1 W)=>jc hh b sz 6 m2 e2);have Nu:Hid (x.free=0->∀W,ao O m2 W->Calls prog 194 #[.pointer (some ⟨O.mb,0,none⟩),.int .i64 (x.Ft:Int),.int .i64 (s:Int)] W λe w'=>e= .returned (.int .i64 0)/\MG O W m3 w'):=Fh (λh0 W hh=>by
  rw[if_pos h0]at e3;exact om hh x.Ft s m3 (by omega) (by omega) e3 (λc q W2 hc hg hq=>cL hg.has c s q hc (by omega) hq) (λq hq=>cJ hq (by omega)))
 have O8:=Fh (λpb W0 W (hp:PG O W0 pb s a x m3 W)=>uD hp.has pb s a b x m4 hp.pt Tn (by omega) e4);obtain⟨lv,QX⟩:=Fp (x.live-1);rw[<-QX]at e5 e6;have OA:=λW (hh:ao O m4 W)=>l9 hh s a {x with free:=b,live:=lv} m5 (by omega) e5;unfold Ha at OA;have NB:=Fh OA;have HME:Hid (lv=0->∀pb W0 W,PG O W0 pb s a {x with free:=b,live:=0} m5 W->Calls prog 197 #[.pointer (some ⟨pb,0,none⟩)] W λe w'=>e= .returned (.tuple #[])/\ao O μ' w'/\aa (λk=>au O k\/k=pb) W w'):=Fh (λh0 pb W0 W hp=>by
  rw[if_pos h0]at e6;have Mn:=hp.pt;rw[ha,<-sa1.Y4 s]at Mn;exact BK hp.has pb s {x with free:=b,live:=0} μ' Mn ⟨GN,IY⟩ (by omega) e6)
 have H3:=Fh e3;have H6:=Fh e6;have z:¬((μ.Fq:Int)=0):=by omega
 have z2:¬(μ.Fq=0):=by omega
 have r1:IntKind.i64.wrap ((x.live:Int)-1)=(lv:Int):=by rw[IntKind.wrap_i64];omega
 clear QX h hv h1 h2 hk e1 e2 e3 e4 e5 e6 g1 g2 g3 GD FR Ws G5 PD GU Y7 sl1 sl2 sl3 sl4 sl5 sa1 ha F8 OA;go_in;go_wp2_with fail;refine HC.o.mono ?_;rintro e w1⟨rfl,hb⟩;have FA:=Fh (FE.o.below hb);clear hb;go_wp2_with fail;refine(II.o _ FA.o).mono ?_;rintro e w2⟨rfl,hg⟩;have FK:=Fh (FA.o.trans hg);clear hg;go_wp2_with fail;refine(Ku.o _ FK.o).mono ?_;rintro e w3⟨rfl,hg⟩;have FT:=Fh (FK.o.trans hg);clear hg;obtain⟨w,hw,Gk,I8⟩:=jz FT.o.has s a x;obtain⟨pb,Kv⟩:=Fp w3.heap.size;rw[<-Kv]at I8;have I4:=Fh I8;have IM:=Fh Gk;have To:Hid (w3.heap.size<=pb):=Fh (by omega);clear I8 Gk;unfold Ha at hw VN IA⊢;go_upto_region 7 with fail;rw[<-hw,<-Kv];clear hw Kv;obtain⟨x0,x1,x2,x3,x4,x5,x6,x7⟩:=I4.o.cells;go_wp2_with fail;refine(VN.o _ _ _ I4.o).mono ?_;rintro e w5⟨rfl,hp⟩;have MF:=Fh hp;clear hp;clear x0 x1 x2 x3 x4 x5 x6 x7;obtain⟨x0,x1,x2,x3,x4,x5,x6,x7⟩:=MF.o.cells;go_wp2_with fail;refine(IA.o _ _ _ _ MF.o).mono ?_;rintro e w6⟨rfl,hp⟩;have Kg:=Fh hp;clear hp;clear x0 x1 x2 x3 x4 x5 x6 x7;obtain⟨x0,x1,x2,x3,x4,x5,x6,x7⟩:=Kg.o.cells;go_wp2_with fail;refine(HZE.o _ Kg.o.has).mono ?_;rintro e w7⟨rfl,hg⟩;have LI:=Fh (Kg.o.mg hg);clear hg;clear x0 x1 x2 x3 x4 x5 x6 x7;obtain⟨x0,x1,x2,x3,x4,x5,x6,x7⟩:=LI.o.cells;go_wp2_with fail;refine(IA.o _ _ _ _ LI.o).mono ?_;rintro e w8⟨rfl,hp⟩;have O7:=Fh hp;clear hp;clear x0 x1 x2 x3 x4 x5 x6 x7;obtain⟨x0,x1,x2,x3,x4,x5,x6,x7⟩:=O7.o.cells;go_wp2_with fail;refine(Td.o _ O7.o.has).mono ?_;rintro e w9⟨rfl,hg⟩;have Q4:=Fh (O7.o.mg hg);clear hg;clear x0 x1 x2 x3 x4 x5 x6 x7;obtain⟨x0,x1,x2,x3,x4,x5,x6,x7⟩:=Q4.o.cells;have H39:=H3.o;by_cases JG:x.free=0
 ·have c0:((x.free:Int)==0)=true:=by rw[JG];rfl
  have HI:=Nu.o JG;have HI':=Fh HI;clear JG HI H39;go_wp2_with fail;refine(HI'.o _ Q4.o.has).mono ?_;rintro e LV⟨rfl,hg⟩;have NC:=Fh (Q4.o.mg hg);clear hg;clear x0 x1 x2 x3 x4 x5 x6 x7;obtain⟨x0,x1,x2,x3,x4,x5,x6,x7⟩:=NC.o.cells;go_wp2_with fail;refine(O8.o _ _ _ NC.o).mono ?_;rintro e NU⟨rfl,hp⟩;have Lj:=Fh (NC.o.trans hp);clear hp;clear x0 x1 x2 x3 x4 x5 x6 x7;obtain⟨x0,x1,x2,x3,x4,x5,x6,x7⟩:=Lj.o.cells;have f4:=Lj.o.pt.frozen 4;obtain⟨T5,Q9⟩:=Fp (NU.setCell ⟨pb,4,none⟩ (.int .i64 (lv:Int)));have JI:=Fh (Lj.o.put 4 (.int .i64 (lv:Int)) ({x with free:=b,live:=lv}) rfl);rw[<-Q9]at JI;go_upto_region 15 with fail;rw[<-Q9];clear Q9 f4;clear x0 x1 x2 x3 x4 x5 x6 x7;obtain⟨x0,x1,x2,x3,x4,x5,x6,x7⟩:=JI.o.cells;go_wp2_with fail;refine(NB.o _ JI.o.has).mono ?_;rintro e RM⟨rfl,hg⟩;have LX:=Fh (JI.o.mg hg);clear hg;clear x0 x1 x2 x3 x4 x5 x6 x7;obtain⟨x0,x1,x2,x3,x4,x5,x6,x7⟩:=LX.o.cells;by_cases h0:lv=0
  ·have c1:((lv:Int)==0)=true:=by rw[h0];rfl
   have Ur:Hid (PG O w pb s a {x with free:=b,live:=0} m5 RM):=Fh (by have:=LX.o;rw[h0]at this;exact this);have HM:=Fh (HME.o h0 _ _ _ Ur.o);clear h0;go_wp2_with fail;refine HM.o.mono ?_;rintro e Wt⟨rfl,hh,hk⟩;have Zh:=Fh hh;have Zi:=Fh hk;clear hh hk;go_wp2;go_ret;exact⟨rfl,FT.o.trans (o7 IM.o To.o Zh.o (LX.o.kept.trans Zi.o))⟩
  ·have c1:((lv:Int)==0)=false:=by rw[Fo];omega
   have Ra:=H6.o;rw[if_neg h0]at Ra;obtain rfl:=Fk Ra;clear h0 Ra;go_wp2;go_ret;exact⟨rfl,FT.o.trans (PG.new IM.o To.o LX.o)⟩
 ·have c0:((x.free:Int)==0)=false:=by rw[Fo];omega
  rw[if_neg JG]at H39;obtain rfl:=Fk H39;have NC:=Q4;clear JG H39;go_wp2_with fail;refine(O8.o _ _ _ NC.o).mono ?_;rintro e NU⟨rfl,hp⟩;have Lj:=Fh (NC.o.trans hp);clear hp;clear x0 x1 x2 x3 x4 x5 x6 x7;obtain⟨x0,x1,x2,x3,x4,x5,x6,x7⟩:=Lj.o.cells;have f4:=Lj.o.pt.frozen 4;obtain⟨T5,Q9⟩:=Fp (NU.setCell ⟨pb,4,none⟩ (.int .i64 (lv:Int)));have JI:=Fh (Lj.o.put 4 (.int .i64 (lv:Int)) ({x with free:=b,live:=lv}) rfl);rw[<-Q9]at JI;go_upto_region 15 with fail;rw[<-Q9];clear Q9 f4;clear x0 x1 x2 x3 x4 x5 x6 x7;obtain⟨x0,x1,x2,x3,x4,x5,x6,x7⟩:=JI.o.cells;go_wp2_with fail;refine(NB.o _ JI.o.has).mono ?_;rintro e RM⟨rfl,hg⟩;have LX:=Fh (JI.o.mg hg);clear hg;clear x0 x1 x2 x3 x4 x5 x6 x7;obtain⟨x0,x1,x2,x3,x4,x5,x6,x7⟩:=LX.o.cells;by_cases h0:lv=0
  ·have c1:((lv:Int)==0)=true:=by rw[h0];rfl
   have Ur:Hid (PG O w pb s a {x with free:=b,live:=0} m5 RM):=Fh (by have:=LX.o;rw[h0]at this;exact this);have HM:=Fh (HME.o h0 _ _ _ Ur.o);clear h0;go_wp2_with fail;refine HM.o.mono ?_;rintro e Wt⟨rfl,hh,hk⟩;have Zh:=Fh hh;have Zi:=Fh hk;clear hh hk;go_wp2;go_ret;exact⟨rfl,FT.o.trans (o7 IM.o To.o Zh.o (LX.o.kept.trans Zi.o))⟩
  ·have c1:((lv:Int)==0)=false:=by rw[Fo];omega
   have Ra:=H6.o;rw[if_neg h0]at Ra;obtain rfl:=Fk Ra;clear h0 Ra;go_wp2;go_ret;exact⟨rfl,FT.o.trans (PG.new IM.o To.o LX.o)⟩
end
end Go.Proofs.YtifkphcaelafjaaGreatDoor
