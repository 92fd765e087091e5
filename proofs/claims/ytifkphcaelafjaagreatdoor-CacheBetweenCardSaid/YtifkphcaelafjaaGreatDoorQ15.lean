/-
  Lemmas on the way to the row. No condition beyond their own.
-/
import Derived.Test.YtifkphcaelafjaaGreatDoorQ14
set_option maxHeartbeats 25600000
set_option maxRecDepth 100000
set_option linter.unusedVariables false
set_option linter.unusedSimpArgs false
namespace Go.Proofs.YtifkphcaelafjaaGreatDoor
open Tryz
open Go.RowKit Go.Colm Go.FC Go.Maps Go.FP Go.Fy Go.Fz
section
variable{O:av}{μ:Mm}{w:World}{cb bk d:Nat}
theorem rX{l:Bool}{nm:List UInt8}{typ:Nat}{q:(Nat×Int)×Mm}(h:dX l nm typ μ=some q):q.1.1<4294967296/\(q.1.2≠0->q.1.1=0):=by
 unfold dX at h;by_cases h0:(aC nm).2≠0
 ·rw[if_pos h0]at h;rw[<-Fk h];exact⟨(by decide:(0:Nat)<4294967296),λ_=>rfl⟩
 ·rw[if_neg h0]at h;obtain⟨a,h1,h2⟩:=Fi h;by_cases ha:a=0
  ·rw[if_pos ha]at h2;rw[<-Fk h2];exact⟨(by decide:(0:Nat)<4294967296),λ_=>rfl⟩
  ·rw[if_neg ha]at h2;obtain⟨o,h3,h4⟩:=Fi h2;cases o with
   |true=>
    rw[if_pos rfl]at h4;obtain⟨m1,_,h5⟩:=Fi h4;rw[<-Fk h5];exact⟨(by decide:(0:Nat)<4294967296),λ_=>rfl⟩
   |false=>
    rw[if_neg (by simp)]at h4;rw[<-Fk h4];exact⟨nh h1,λe=>(e rfl).elim⟩
theorem AA(h:dt cb bk O μ d w)(hm:jL O w)(nm:ByteArray)(hl:nm.size<=100000)(typ:Nat)(ht:typ<65536)(q:(Nat×Int)×Mm)(hv:oL (decide (0<d)) nm.data.toList typ μ=some q):
  Calls prog 58 #[.pointer (some ⟨cb,0,none⟩),.agg #[.string nm,.int .u16 (typ:Int)]] w λe w'=>e= .returned (.tuple #[.int .i64 (q.1.1:Int),.int .i64 q.1.2])/\MG O w q.2 w':=by
 have GN:=(CG.of h).alloc (.cells #[.string nm,.int .u16 (typ:Int)] 40);obtain⟨w1,FJ⟩:=Fp (w.alloc (.cells #[.string nm,.int .u16 (typ:Int)] 40));have JQ:Whole w1 w.heap.size 40 #[.string nm,.int .u16 (typ:Int)]:=by rw[FJ];exact Whole.new _ _ _
 obtain⟨q1,F6,F0⟩:=Fi hv;obtain⟨UW,TC⟩:=rX F6;rw[<-FJ]at GN;have TR:=Fh (hm.kept (W:=w1) (by rw[FJ];exact(aa.refl _ w).alloc _));have HF:=Fh (rW GN.has TR.o nm hl typ ht q1 F6);have HN:=Fh (mQ GN.has);have JS:=Fh GN;have k0:=JQ.cell 0;have k1:=JQ.cell 1;obtain⟨⟨a,er⟩,m1⟩:=q1;dsimp only at UW TC F0;by_cases Ih:er=0
 ·rw[if_neg (by simpa using Ih)]at F0;obtain⟨m2,SK,Pd⟩:=Fi F0;have HU:=Fh SK;have HQ:=Fh (Fk Pd);subst Ih;clear h hm GN JQ hv F6 F0 SK Pd TC;go_in;go_upto_region 1 with fail;rw[<-FJ];clear FJ;go_wp2_with fail;refine HN.o.mono ?_;rintro e w2⟨rfl,rfl⟩;go_wp2_with fail;refine HF.o.mono ?_;rintro e w3⟨rfl,FZ⟩;have IP:=Fh (JS.o.on FZ);clear FZ;obtain⟨_,x0,x1⟩:=IP.o.held;have HEU:=Fh (yq IP.o.mg.has a 1 true m2 UW (by omega) rfl HU.o);go_wp2_with fail;refine HEU.o.mono ?_;rintro e w4⟨rfl,F9⟩;have L8:=Fh (IP.o.on F9);clear F9;go_wp2;go_ret2;rw[<-HQ.o];exact⟨rfl,L8.o.mg⟩
 ·rw[if_pos (by simpa using Ih)]at F0;have HQ:=Fh (Fk F0);obtain rfl:=TC Ih;have z:decide (er=0)=false:=by simp[Ih]
  clear h hm GN JQ hv F6 F0 TC;go_in;go_upto_region 1 with fail;rw[<-FJ];clear FJ;go_wp2_with fail;refine HN.o.mono ?_;rintro e w2⟨rfl,rfl⟩;go_wp2_with fail;refine HF.o.mono ?_;rintro e w3⟨rfl,FZ⟩;have IP:=Fh (JS.o.on FZ);clear FZ;go_wp2;go_ret2;rw[<-HQ.o];exact⟨rfl,IP.o.mg⟩
theorem yD(h:dt cb bk O μ 0 w)(hm:jL O w)(nm:ByteArray)(hl:nm.size<=100000)(typ:Nat)(ht:typ<65536)(q:Int×Mm)(hv:jo nm.data.toList typ μ=some q):
  Calls prog 13 #[.pointer (some ⟨cb,0,none⟩),.agg #[.string nm,.int .u16 (typ:Int)]] w λe w'=>e= .returned (.int .i64 q.1)/\MG O w q.2 w':=by
 have GN:=(CG.of h).alloc (.cells #[.string nm,.int .u16 (typ:Int)] 40);obtain⟨w1,FJ⟩:=Fp (w.alloc (.cells #[.string nm,.int .u16 (typ:Int)] 40));have JQ:Whole w1 w.heap.size 40 #[.string nm,.int .u16 (typ:Int)]:=by rw[FJ];exact Whole.new _ _ _
 obtain⟨q1,F6,F0⟩:=Fi hv;obtain⟨UW,TC⟩:=rX F6;rw[<-FJ]at GN;have TR:=Fh (hm.kept (W:=w1) (by rw[FJ];exact(aa.refl _ w).alloc _));have HF:=Fh (rW GN.has TR.o nm hl typ ht q1 F6);have HN:=Fh (fw GN.has);have JS:=Fh GN;have k0:=JQ.cell 0;have k1:=JQ.cell 1;obtain⟨⟨a,er⟩,m1⟩:=q1;dsimp only at UW TC F0;by_cases Ih:er=0
 ·rw[if_neg (by simpa using Ih)]at F0;obtain⟨m2,SK,Pd⟩:=Fi F0;have HU:=Fh SK;have HQ:=Fh (Fk Pd);subst Ih;clear h hm GN JQ hv F6 F0 SK Pd TC;go_in;go_upto_region 1 with fail;rw[<-FJ];clear FJ;go_wp2_with fail;refine HN.o.mono ?_;rintro e w2⟨rfl,rfl⟩;go_wp2_with fail;refine HF.o.mono ?_;rintro e w3⟨rfl,FZ⟩;have IP:=Fh (JS.o.on FZ);clear FZ;obtain⟨_,x0,x1⟩:=IP.o.held;have HEU:=Fh (tg IP.o.mg.has a m2 UW HU.o);go_wp2_with fail;refine HEU.o.mono ?_;rintro e w4⟨⟨nn,rfl⟩,F9⟩;have L8:=Fh (IP.o.on F9);clear F9;go_wp2;go_ret;rw[<-HQ.o];exact⟨rfl,L8.o.mg⟩
 ·rw[if_pos (by simpa using Ih)]at F0;have HQ:=Fh (Fk F0);obtain rfl:=TC Ih;have z:decide (er=0)=false:=by simp[Ih]
  clear h hm GN JQ hv F6 F0 TC;go_in;go_upto_region 1 with fail;rw[<-FJ];clear FJ;go_wp2_with fail;refine HN.o.mono ?_;rintro e w2⟨rfl,rfl⟩;go_wp2_with fail;refine HF.o.mono ?_;rintro e w3⟨rfl,FZ⟩;have IP:=Fh (JS.o.on FZ);clear FZ;go_wp2;go_ret;rw[<-HQ.o];exact⟨rfl,IP.o.mg⟩
theorem AB(h:dt cb bk O μ 0 w)(Ga:Nat)(W8:Ga<9223372036854775808)(r:List Ky)(μ':Mm)(hv:iD Ga μ=some (r,μ')):Calls prog 19 #[.pointer (some ⟨cb,0,none⟩),.int .i64 (Ga:Int)] w λe w'=>
  ∃vk,e= .returned (.tuple #[vk,.int .i64 0])/\dK w.heap.size w' vk r/\MG O w μ' w':=by
 have HF:=Fh (fw h);have HS:=Fh (rV h.m Ga W8 r μ' hv);obtain⟨x0,x1⟩:=h.cc;clear h hv;go_in;go_wp2_with fail;refine HF.o.mono ?_;rintro e w2⟨rfl,rfl⟩;go_wp2_with fail;refine HS.o.mono ?_;rintro e w3⟨vk,rfl,ho,hg⟩;go_wp2;go_ret2;exact⟨vk,rfl,ho,hg⟩
theorem pP(h:dt cb bk O μ 0 w)(n:Nat)(hn:n<18446744073709551616)(r:List Ky)(μ':Mm)(hv:gI n μ=some (r,μ')):Calls prog 17 #[.pointer (some ⟨cb,0,none⟩),.int .u64 (n:Int)] w λe w'=>
  ∃vk,e= .returned (.tuple #[vk,.int .i64 0])/\dK w.heap.size w' vk r/\MG O w μ' w':=by
 obtain⟨m1,h1,h2⟩:=Fi hv;have HF:=Fh (fw h);have HT:=Fh (DL h.m n m1 hn h1);have HS:=Fh h2;obtain⟨x0,x1⟩:=h.cc;have VH:=Fh (CG.of h);clear h hv h1 h2;go_in;go_wp2_with fail;refine HF.o.mono ?_;rintro e w2⟨rfl,rfl⟩;go_wp2_with fail;refine HT.o.mono ?_;rintro e w3⟨⟨xx,rfl⟩,FZ⟩;have IP:=Fh (VH.o.on FZ);have HR:=Fh (rV IP.o.mg.has 4 (by decide) r μ' HS.o);clear FZ x0 x1;obtain⟨_,x0,x1⟩:=IP.o.held;go_wp2_with fail;refine HR.o.mono ?_;rintro e w4⟨vk,rfl,ho,hg⟩;go_wp2;go_ret2;exact⟨vk,rfl,aS ho IP.o.mg.kept.size,IP.o.mg.trans hg⟩
theorem vy(h:dt cb bk O μ 0 w)(r:Option (List (Nat×Nat)))(μ':Mm)(hv:gV μ=some (r,μ')):Calls prog 21 #[.pointer (some ⟨cb,0,none⟩)] w λe w'=>
  e= .returned (.tuple #[.int .i64 ((r.getD []).length:Int),.int .i64 (if r.isSome then 0 else 7)])/\MG O w μ' w':=by
 have HF:=Fh (fw h);obtain⟨er,Ih⟩:=Fp ((if r.isSome then(0:Int)else 7));have Hz:=yy h.m r μ' hv;rw[<-Ih]at Hz⊢;have HS:=Fh Hz;obtain⟨x0,x1⟩:=h.cc;clear h hv Ih Hz;go_in;go_wp2_with fail;refine HF.o.mono ?_;rintro e w2⟨rfl,rfl⟩;go_wp2_with fail;refine HS.o.mono ?_;rintro e w3⟨⟨v,rfl,ho⟩,hg⟩;obtain⟨A,c,hvv⟩:=aw ho;subst hvv;clear ho;go_wp2;go_ret2;exact⟨rfl,hg⟩
end
theorem vz(A:Option Addr)(c:Nat)(l:List (Nat×Nat))(a:Nat)(w:World)(h:pF A l w)(hl:l.length<1000000000):Calls prog 166 #[.slice A l.length c,.int .i64 (a:Int)] w λe w'=>e= .returned (.int .i64 (bj l a:Nat))/\Below w.heap.size w w':=by
 have HA:=Fh h;obtain⟨L,hL⟩:=Fp l.length;rw[<-hL]at hl⊢;have HL:=Fh hL;clear h hL;go_in;go_wp2_with fail
 go_loopw [1,6,9] (λs1 _ s9 W=>∃(j a1:Nat),j<=L/\s1= .int .i64 a1/\s9= .int .i64 j/\Hid (Below w.heap.size w W)/\Hid (bj (l.drop j) a1=bj l a)) (λ_ _ s9 W=>match s9 with| .int _ m=>L-m.toNat|_=>0)
 case atStart=>exact⟨0,a,Nat.zero_le _,rfl,rfl,Fh (Below.refl _ _),Fh rfl⟩
 case round=>
  obtain⟨j,a1,hj,rfl,rfl,HB,HF⟩:=hrel;by_cases K0:j<L
  ·obtain⟨p,hp⟩:∃p,l[j]? =some p:=⟨_,Fl (by have:=HL.o;omega)⟩;obtain⟨g,o,rfl,x0,x1⟩:=(HA.o.below HB.o) j p hp;have hdr:l.drop j=p::l.drop (j+1):=by
    rw[List.drop_eq_getElem_cons (by have:=HL.o;omega)];rw[Fl (by have:=HL.o;omega)]at hp;rw[Fk hp]
   have hf:=HF.o;rw[hdr]at hf;have IT:bj (l.drop (j+1)) (if p.1=a1 then p.2 else a1)=bj l a:=hf;clear hp hdr hf;by_cases hk:p.1=a1
   ·rw[if_pos hk]at IT;have KP:=Fh IT;have c0:((p.1:Int)==(a1:Int))=true:=by rw[hk];simp
    clear IT hk;go_wp2_with fail;exact⟨⟨j+1,p.2,by omega,rfl,by go_num,Fh (HB.o.alloc HB.o.size _),KP⟩,by simp;omega⟩
   ·rw[if_neg hk]at IT;have KP:=Fh IT;have c0:((p.1:Int)==(a1:Int))=false:=by rw[Fo];omega
    clear IT hk;go_wp2_with fail;exact⟨⟨j+1,a1,by omega,rfl,by go_num,Fh (HB.o.alloc HB.o.size _),KP⟩,by simp;omega⟩
  ·have Pj:l.drop j= []:=List.drop_eq_nil_of_le (by rw[<-HL.o];omega);have hf:=HF.o;rw[Pj]at hf;have IT:a1=bj l a:=hf;have HX:=Fh IT;clear Pj hf IT;go_wp2_with fail
   try rw[Exit.noGoto_ret]
   go_ret;exact⟨by rw[<-HX.o];rfl,HB.o⟩
theorem bW.SL(B:Nat)(w:World):bW B w (.slice none 0 0) [] []:=⟨rfl,World.ownsRow_nil _ _ _ _,λi u x h1 h2=>by simp at h1⟩
section
variable{O:av}{μ:Mm}{w:World}{cb bk d:Nat}
theorem ot(h:dt cb bk O μ d w)(hm:jL O w)(nm:ByteArray)(hl:nm.size<=100000)(typ:Nat)(ht:typ<65536)(q:(List (List UInt8)×Int)×Mm)(hv:eS (decide (0<d)) nm.data.toList typ μ=some q):
  Calls prog 22 #[.pointer (some ⟨cb,0,none⟩),.agg #[.string nm,.int .u16 (typ:Int)]] w λe w'=>∃v us,e= .returned (.tuple #[v,.int .i64 q.1.2])/\bW w.heap.size w' v us q.1.1/\MG O w q.2 w':=by
 have GN:=(CG.of h).alloc (.cells #[.string nm,.int .u16 (typ:Int)] 40);obtain⟨w1,FJ⟩:=Fp (w.alloc (.cells #[.string nm,.int .u16 (typ:Int)] 40));have JQ:Whole w1 w.heap.size 40 #[.string nm,.int .u16 (typ:Int)]:=by rw[FJ];exact Whole.new _ _ _
 obtain⟨q1,F6,F0⟩:=Fi hv;rw[<-FJ]at GN;have TR:=Fh (hm.kept (W:=w1) (by rw[FJ];exact(aa.refl _ w).alloc _));have HF:=Fh (AA GN.has TR.o nm hl typ ht q1 F6);have JS:=Fh GN;have k0:=JQ.cell 0;have k1:=JQ.cell 1;obtain⟨⟨a,er⟩,m1⟩:=q1;dsimp only at F0;by_cases Ih:er=0
 ·rw[if_neg (by simpa using Ih)]at F0;obtain⟨p,SK,Pd⟩:=Fi F0;by_cases hup:(aP p).2≠0
  ·rw[if_pos hup]at Pd;cases Pd
  ·rw[if_neg hup]at Pd;obtain⟨b,FN,FF⟩:=Fi SK;have HU:=Fh (And.intro FN FF);have Pa:Hid ((aP p).2=0):=Fh (by omega);have HQ:=Fh (Fk Pd);subst Ih;clear h hm GN JQ hv F6 F0 SK Pd hup FN FF;go_in;go_upto_region 1 with fail;rw[<-FJ];clear FJ;go_wp2_with fail;refine HF.o.mono ?_;rintro e w3⟨rfl,FZ⟩;have IP:=Fh (JS.o.on FZ);clear FZ;obtain⟨_,x0,x1⟩:=IP.o.held;have ZB:=Fh (uX IP.o.mg.has a b p (ia IP.o.mg.has HU.o.1) HU.o.1 HU.o.2 Pa.o);go_wp2_with fail;refine ZB.o.mono ?_;rintro e w4⟨v,us,rfl,hri,F9⟩;have L8:=Fh (IP.o.on F9);have HRI:=Fh (hri.base IP.o.mg.kept.size);clear F9 hri;go_wp2;go_ret2;rw[<-HQ.o];exact⟨v,us,rfl,HRI.o,L8.o.mg⟩
 ·rw[if_pos (by simpa using Ih)]at F0;have HQ:=Fh (Fk F0);have z:decide (er=0)=false:=by simp[Ih]
  clear h hm GN JQ hv F6 F0;go_in;go_upto_region 1 with fail;rw[<-FJ];clear FJ;go_wp2_with fail;refine HF.o.mono ?_;rintro e w3⟨rfl,FZ⟩;have IP:=Fh (JS.o.on FZ);clear FZ;go_wp2;go_ret2;rw[<-HQ.o];exact⟨_,_,rfl,bW.SL _ _,IP.o.mg⟩
structure Nn(O:av)(w:World)(pb:Nat)(p:Pw)(vk:Value)(μ:Mm)(W:World):Prop where
 mg:MX O pb w μ W
 ng:¬eX O pb
 pt:Whole W pb 97 #[.pointer (some ⟨O.mb,0,none⟩),.int .i64 (p.GB:Int),vk]
 ok:dK w.heap.size W vk p.gone
variable{pb:Nat}{p:Pw}{vk:Value}{W W':World}
theorem Nn.on(h0:ao O μ w){m m':Mm}(h:Nn O w pb p vk m W)(k:MG O W m' W'):Nn O w pb p vk m' W':=
 ⟨h.mg.trans k,h.ng,k.kept.whole h.pt (λe=>h.ng (pL e)),aj h.ok k.kept (cr h0 h.ok)⟩
theorem Nn.new{m:Mm}(h:Nn O w pb p vk m W)(k:aa (λ_=>False) W W'):Nn O w pb p vk m W':=
 ⟨⟨h.mg.has.kept k λ_ _=>id,h.mg.kept.trans (k.mono λ_ _ e=>e.elim)⟩,h.ng,k.whole h.pt id,aj h.ok k λ_ _=>id⟩
theorem Nn.GB(h0:ao O μ w){m:Mm}(h:Nn O w pb p vk m W)(a:Nat):Nn O w pb {p with GB:=a} vk m (W.setCell ⟨pb,1,none⟩ (.int .i64 (a:Int))):=by
 have ks:aa (λk=>k=pb) W (W.setCell ⟨pb,1,none⟩ (.int .i64 (a:Int))):=(aa.refl (λk=>k=pb) W).setCell (p:=⟨pb,1,none⟩) (.inl rfl) _;exact⟨MX.beside h0 h.mg h.ng ks λk e=> .inr e,h.ng,h.pt.put 1 _,aj h.ok ks λk hk e=>aA h.ok h.pt (by decide) (by rw[hk,e])⟩
theorem Nn.ZL(h0:ao O μ w){m:Mm}{w3:World}{l:List Ky}{v':Value}(h:Nn O w pb p vk m W)(F3:w3.ownsRow w.heap.size 40 2 v' (p.gone.length+l.length) (fT p.gone++fT l))(FZ:W.grownBy w3 vk.ownBlock):
  Whole w3 pb 97 #[.pointer (some ⟨O.mb,0,none⟩),.int .i64 (p.GB:Int),vk]/\Nn O w pb {p with gone:=p.gone++l} v' m (w3.setCell ⟨pb,2,none⟩ v'):=by
 have kg:=aa.grown FZ;have F7:=kg.whole h.pt (aA h.ok h.pt (by decide));have ks:aa (λk=>k=pb) w3 (w3.setCell ⟨pb,2,none⟩ v'):=(aa.refl (λk=>k=pb) w3).setCell (p:=⟨pb,2,none⟩) (.inl rfl) _;have m3:MX O pb w m w3:=MX.beside h0 h.mg h.ng kg λk hk=> .inl (aF h.ok hk).1;refine⟨F7,MX.beside h0 m3 h.ng ks λk e=> .inr e,h.ng,F7.put 2 _,?_⟩;unfold dK;have e:fT (p.gone++l)=fT p.gone++fT l:=by unfold fT;rw[List.flatMap_append]
 rw[e,List.length_append];exact aj F3 ks λk hk e=>aA F3 F7 (by decide) (by rw[hk,e])
theorem AD(l:List Ky):∀x∈fT l,x.oneCell'=true:=λx hx=>by
 unfold fT at hx;obtain⟨p,_,hp⟩:=List.mem_flatMap.1 hx;simp only [tA,List.mem_cons,List.not_mem_nil,or_false]at hp;rcases hp with rfl|rfl<;>rfl
theorem vA(h0:ao O μ w){m:Mm}(h:Nn O w pb p vk m W)(hlg:p.gone.length<=10000000000)(c:Nat)(hc:c<=100)(q:(Nat×Nat×Pw)×Mm)(hv:pJ c p m=some q)(Yn:q.1.2.2.gone.length<=10000000000)(Ho:∀r m1,mn c m=some (r,m1)->r.1.F2.length<1000000000):Calls prog 97 #[.pointer (some ⟨pb,0,none⟩),.int .i64 (c:Int)] W λe w'=>
  e= .returned (.tuple #[.int .i64 (q.1.1:Int),.int .i64 (q.1.2.1:Int)])/\∃Yr,Nn O w pb q.1.2.2 Yr q.2 w':=by
 obtain⟨r,h1,h2⟩:=Fi hv;have h2:=Fk h2;obtain⟨⟨g,er⟩,m1⟩:=r;have HP:=Fh h;have H0:=Fh h0;have HT:=Fh (CF h.mg.has c hc (g,er) m1 h1);have x0:=h.pt.cell 0;dsimp only at h2;have HQ:=Fh h2;have hpl':=Ho _ _ h1;dsimp only at hpl';clear h h0 hv h1 h2 Ho;go_in;go_wp2_with fail;refine HT.o.mono ?_;rintro e w1⟨vg,vp,rfl,hko,hpo,Gz⟩;have Tf:=Fh (HP.o.on H0.o Gz);have HKO:=Fh hko;obtain⟨A1,c1,hvg⟩:=aw hko;obtain⟨A2,c2,hvp,Ml,Kv⟩:=hpo.at_;subst hvg hvp;have So:=Fh hpo;obtain⟨w2,FL⟩:=Fp (w1.alloc (.cells #[.int .i64 (g.at_:Int),.slice A1 g.gone.length c1,.int .i64 (g.over:Int),.slice A2 g.F2.length c2] 228));obtain⟨gb,Ps⟩:=Fp w1.heap.size;have hwg:Whole w2 gb 228 #[.int .i64 (g.at_:Int),.slice A1 g.gone.length c1,.int .i64 (g.over:Int),.slice A2 g.F2.length c2]:=by rw[FL,Ps];exact Whole.new _ _ _
 have ka:aa (λ_=>False) w1 w2:=by rw[FL];exact(aa.refl _ _).alloc _
 have hne:pb≠gb:=by have:=Tf.o.pt.lt;omega
 have Mk:=Fh (Tf.o.new ka);have SM:=Fh (Mk.o.new ((aa.refl (λ_=>False) w2).drew));have Le:=aj hko (ka.trans ((aa.refl (λ_=>False) w2).drew)) λ_ _=>id;have TP:=aj hpo (ka.trans ((aa.refl (λ_=>False) w2).drew)) λ_ _=>id;have J2:=((aa.refl (λ_=>False) w2).drew).whole hwg id;obtain⟨i0,hi,G9,G8,G7⟩:=info_parts MS;have hle:(p.gone++g.gone).length<=10000000000:=by rw[<-HQ.o]at Yn;exact Yn
 rw[List.length_append]at hle;obtain⟨v',w3,hr,F3,FZ⟩:=pM w.heap.size 46 46 40 i0 _ 2 24 underlying46 hi G9 G8 G7 rfl (by decide) SM.o.ok Le (AD _) (by unfold maxLen;omega) (by omega) SM.o.mg.kept.size;obtain⟨A3,c3,GM⟩:=aw F3;subst GM;have Gy:=SM.o.ZL H0.o F3 FZ;have kg:=aa.grown FZ;have hg3w:=kg.whole J2 (aA SM.o.ok J2 (by decide));have Ma:=aj TP kg λk hk e=>iN SM.o.ok TP (by decide) hk e;have HR:=Fh hr;have x2:w2.cell? ⟨pb,2,none⟩=some vk:=Mk.o.pt.cell 2;have x2d:w2.drew.cell? ⟨pb,2,none⟩=some vk:=SM.o.pt.cell 2;have y1:w2.cell? ⟨gb,1,none⟩=some (.slice A1 g.gone.length c1):=hwg.cell 1;have y1d:w2.drew.cell? ⟨gb,1,none⟩=some (.slice A1 g.gone.length c1):=J2.cell 1;have z2:w3.cell? ⟨pb,2,none⟩=some vk:=Gy.1.cell 2;have z2f:=Gy.1.frozen 2;obtain⟨w4,Hn⟩:=Fp (w3.setCell ⟨pb,2,none⟩ (.slice A3 (p.gone.length+g.gone.length) c3));have ks:aa (λk=>k=pb) w3 w4:=by rw[Hn];exact(aa.refl (λk=>k=pb) w3).setCell (p:=⟨pb,2,none⟩) (.inl rfl) _
 have F9:=ks.whole hg3w (λe=>hne e.symm);have I8:=aj Ma ks λk hk e=>aA Ma Gy.1 (by decide) (by rw[hk,e]);have hP4:=Gy.2;rw[<-Hn]at hP4;have I4:=Fh hP4;have FW:=Fh (And.intro F9 I8);clear Le TP J2 F3 FZ Gy kg hg3w Ma ks F9 I8 hP4 hwg ka hr Ml Kv hko hpo hi G9 G8 G7;go_upto_region 2 with fail;rw[<-Ps,<-FL];clear FL Ps
 go_region_law ((refine iY rfl _ _ 46 rfl vk (.slice A1 g.gone.length c1) rfl rfl HR.o ?_))
 all_goals
  go_upto_region 3 with fail;rw[<-Hn];clear Hn;have MF:=Fh (I4.o.new ((aa.refl (λ_=>False) w4).drew));have IB:=((aa.refl (λ_=>False) w4).drew).whole FW.o.1 id;have SI:=aj FW.o.2 ((aa.refl (λ_=>False) w4).drew) λ_ _=>id;obtain⟨A6,c6,NG,hpa6,_⟩:=fi.at_ SI;have hv6':A2=A6/\c2=c6:=by
   injection NG with e1 _ e3;exact⟨e1,e3⟩
  obtain⟨rfl,rfl⟩:=hv6';have Zc:=Fh (vz A2 c2 g.F2 p.GB w4.drew hpa6 (by omega));have u1:w4.cell? ⟨pb,1,none⟩=some (.int .i64 (p.GB:Int)):=I4.o.pt.cell 1;have u1d:w4.drew.cell? ⟨pb,1,none⟩=some (.int .i64 (p.GB:Int)):=MF.o.pt.cell 1;have t3:w4.cell? ⟨gb,3,none⟩=some (.slice A2 g.F2.length c2):=FW.o.1.cell 3;have t3d:w4.drew.cell? ⟨gb,3,none⟩=some (.slice A2 g.F2.length c2):=IB.cell 3;have Gj:=Fh IB;clear IB SI NG hpa6 x2 x2d y1 y1d z2 z2f
  go_region_law (
   (go_simp;refine Zc.o.mono ?_;rintro e w6 ⟨rfl,I3⟩;have k6:=aa.below I3 (λ_=>False);have KD:=MF.o.new k6;have v1:w6.cell? ⟨pb,1,none⟩=some (.int .i64 (p.GB:Int)):=KD.pt.cell 1;have v1f:=KD.pt.frozen 1;have Hm:=k6.whole Gj.o id;have GP:=Fh Hm;have Kg:=Fh KD;clear I3 k6 KD Hm))
  all_goals
   obtain⟨w7,Li⟩:=Fp (w6.setCell ⟨pb,1,none⟩ (.int .i64 ((bj g.F2 p.GB:Nat):Int)));have hp7:=Kg.o.GB H0.o (bj g.F2 p.GB);rw[<-Li]at hp7;have J1:Whole w7 gb 228 #[.int .i64 (g.at_:Int),.slice A1 g.gone.length c1,.int .i64 (g.over:Int),.slice A2 g.F2.length c2]:=by rw[Li];exact((aa.refl (λk=>k=pb) w6).setCell (p:=⟨pb,1,none⟩) (.inl rfl) _).whole GP.o (λe=>hne e.symm)
   have t0:=J1.cell 0;have LI:=Fh hp7;clear hp7 J1;go_upto_region 4 with fail;rw[<-Li];clear Li;go_wp2;go_ret2;rw[<-HQ.o];exact⟨rfl,_,LI.o⟩
end
theorem lz{c:Nat}:∀(k:Nat) (g:Gt) (m:Mm) (r:(Gt×Nat)×Mm),cM c k g m=some r->r.1.1.gone.length<=g.gone.length+k/\r.1.1.F2.length<=g.F2.length+32*k
 |0,g,m,r,h=>by simp[cM]at h
 |k+1,g,m,r,h=>by
  rw[jK]at h;obtain⟨q,_,h⟩:=Fi h;by_cases hq:q.1.2≠5
  ·rw[if_pos hq]at h;rw[<-Fk h];dsimp only;omega
  ·rw[if_neg hq]at h;obtain⟨e,_,h⟩:=Fi h;obtain⟨eo,e2⟩:=e;cases eo with
   |some kk=>
    have:=lz k _ _ r h;split at this<;>simp at this⊢<;>omega
   |none=>
    obtain⟨t,h1,h⟩:=Fi (show vv c k g e2=some r from h);obtain⟨Ip,t2⟩:=t;cases Ip with
    |some l=>
     have:=lz k _ _ r h;have:=rU h1;simp at*;omega
    |none=>
     rw[<-Fk h];dsimp only;omega
section
variable{O:av}{μ:Mm}{w:World}
theorem rY(h:ao O μ w){c:Nat}{r:Gt×Nat}{m1:Mm}(hv:mn c μ=some (r,m1)):r.1.gone.length<=2000000/\r.1.F2.length<1000000000:=by
 have:=lz _ _ _ _ hv;have h1:=h.PS;have h2:=h.GX;simp at this;omega
theorem rZ(h:ao O μ w){c:Nat}{p:Pw}{q:(Nat×Nat×Pw)×Mm}(hv:pJ c p μ=some q):q.1.2.2.gone.length<=p.gone.length+2000000/\∀r m1,mn c μ=some (r,m1)->r.1.F2.length<1000000000:=by
 obtain⟨r,h1,h2⟩:=Fi hv;have:=rY h (r:=r.1) (m1:=r.2) h1;rw[<-Fk h2];refine⟨by dsimp only;rw[List.length_append];omega,λr' m1' h'=> ?_⟩;exact(rY h h').2
theorem AE(h:ao O μ w){a:Nat}(hk:μ.FH a 4≠0):a<4294967000:=by
 have hs:=h.GX;unfold Mm.FH at hk;by_cases c2:4<1\/μ.size<a+4
 ·rw[if_pos c2]at hk;exact absurd rfl hk
 ·omega
theorem pQ(h:ao O μ w){a c:Nat}(hv:fG a c μ=some ()):a<4294967000:=by
 obtain⟨_,_,_,hk,_⟩:=eJ hv;exact AE h (by rw[hk];decide)
theorem CH(h:ao O μ w){up a:Nat}{l:List UInt8}{m':Mm}(hv:oH up a l μ=some m'):a<4294967000/\up<4294967296:=by
 obtain⟨m1,h1,_⟩:=Fi hv;unfold mK at h1;by_cases hl:aG l≠0
 ·rw[if_pos hl]at h1;cases h1
 ·rw[if_neg hl]at h1;obtain⟨_,h2,h3⟩:=Fi h1;obtain⟨_,h4,_⟩:=Fi h3;refine⟨pQ h h4,?_⟩;obtain⟨q,h5,h6⟩:=Fi h2;by_cases hu:up=0
  ·omega
  ·by_cases hq:up=0\/(q.2=0/\q.1.tag=2)
   ·have ht:eD 2 up μ=some q.1:=by
     unfold eD;rw[h5];rcases hq with h7|h7
     ·exact absurd h7 hu
     ·simp[h7]
    have:=ia h ht;omega
   ·rw[if_neg hq]at h6;cases h6
variable{pb:Nat}{p:Pw}{vk:Value}{W W':World}
theorem CI(h0:ao O μ w){m:Mm}(h:Nn O w pb p vk m W)(A:Option Addr)(cc:Nat)(ls:List (List UInt8))(hr:iZ O w A ls)(UN:ls≠ []->∀a,A=some a->a.block≠pb)(G1:ls.length<=255)(hs:∀s∈ls,s.length<=63)(hlg:p.gone.length<=1000000000)(q:(Nat×Pw)×Mm)(hv:JL ls.reverse p m=some q):
  Calls prog 45 #[.pointer (some ⟨pb,0,none⟩),.slice A ls.length cc] W λe w'=>e= .returned (.int .i64 (q.1.1:Int))/\(∃Yr,Nn O w pb q.1.2 Yr q.2 w')/\q.1.2.gone.length<=2000000000:=by
 have Yb:=Fh hr;have Qo:=Fh UN;have HS:=Fh hs;have H0:=Fh h0;have HP:=Fh h;have HV:Hid (JL (ls.reverse.drop 0) p m=some q):=Fh (by rw[List.drop_zero];exact hv);obtain⟨n,hn⟩:=Fp ls.length;have HN:=Fh hn;rw[<-hn]at G1⊢;clear h hr UN hs h0 hv hn;go_in;have HNC:Hid (∀k:Nat,k<64->1<=k->(bl k).2=0/\(bl k).1<=100):=Fh (by decide);go_wp2_with fail
 go_loopw [13] (λUJ W=>∃(j:Nat) (p':Pw) (Yr:Value) (m':Mm),j<=n/\UJ= .int .i64 j/\Hid (Nn O w pb p' Yr m' W)/\Hid (JL (ls.reverse.drop j) p' m'=some q)/\p'.gone.length<=1000000000+2000000*j) (λUJ W=>match UJ with| .int _ m=>n-m.toNat|_=>0)
 case atStart=>exact⟨0,p,vk,m,by omega,rfl,HP,HV,by omega⟩
 case round=>
  obtain⟨j,p',Yr,m',hj,rfl,HP',HV',Wq⟩:=hrel;by_cases Ul:j<n
  ·obtain⟨jj,Pj⟩:=Fp (n-1-j);have K0:jj<ls.length:=by have:=HN.o;omega
   have Gh:iZ O wr A ls:=by
    refine⟨λi v hv=> ?_,Yb.o.no⟩;obtain⟨b,off,e,hc⟩:=Yb.o.row i v hv;exact⟨b,off,e,HP'.o.mg.kept.cell hc (by
     rintro(e1|e1)
     ·exact Yb.o.no _ e e1
     ·exact Qo.o (λe0=>by rw[e0]at hv;simp[fN]at hv) _ e e1)⟩
   obtain⟨b,off,rfl,hcell⟩:=Gh.at_ K0;have hd:ls.reverse.drop j=ls[jj]::ls.reverse.drop (j+1):=by
    have RT:j<ls.reverse.length:=by simp;have:=HN.o;omega
    rw[List.drop_eq_getElem_cons RT,List.getElem_reverse];congr 1;congr 1;have:=HN.o;omega
   have hv:=HV'.o;rw[hd,JL]at hv;obtain⟨l,hl⟩:=Fp (ls[jj]);rw[<-hl]at hv hcell;have hl63:l.length<=63:=by rw[hl];exact HS.o _ (List.getElem_mem K0)
   by_cases hle:aG l≠0
   ·rw[if_pos hle]at hv;cases hv
   rw[if_neg hle]at hv;have Xa:aG l=0:=by omega
   obtain⟨hh,h1,h2⟩:=Fi hv;have Pr:1<=l.length:=by
    unfold aG at Xa;split at Xa
    ·cases Xa
    ·omega
   have hnc:=HNC.o l.length (by omega) Pr;have Xb:=rG l wr HP'.o.mg.has.env.Hk (by omega);rw[if_neg hle,if_neg hle,hnc.1]at Xb;obtain⟨Wg,IT⟩:=rZ HP'.o.mg.has h1;obtain⟨cl,GI⟩:=Fp ((bl l.length).1);rw[<-GI]at Xb h1 hnc IT;have JE:=Fh Xb;have HH1:=Fh h1;have Z1:=Fh h2;have KP:Hid (∀r m1,mn cl m'=some (r,m1)->r.1.F2.length<1000000000):=Fh IT;obtain⟨S,hS⟩:∃S:ByteArray,S=⟨l.toArray⟩:=⟨_,rfl⟩;have HSS:=Fh hS;rw[<-hS]at hcell JE;have w1:IntKind.i64.wrap ((n:Int)-1)=(n:Int)-1:=by rw[IntKind.wrap_i64];omega
   have w2:IntKind.i64.wrap ((n:Int)-1-(j:Int))=(jj:Int):=by rw[IntKind.wrap_i64];omega
   have hjn':jj<n:=by omega
   have Z2:=hnc.2;clear Gh hd hv hl hle Xa h1 h2 hnc Xb IT GI hS K0 Pj;go_wp2_with fail;refine JE.o.mono ?_;rintro e w3⟨rfl,Gf⟩;have Pt:=Fh (HP'.o.new (aa.below Gf (λ_=>False)));clear Gf;have HHV:=Fh (vA H0.o Pt.o (by omega) cl Z2 hh HH1.o (by omega) KP.o);go_wp2_with fail;refine HHV.o.mono ?_;rintro e w4⟨rfl,vk4,I8⟩;have I4:=Fh I8;clear I8;obtain⟨⟨a,er,p4⟩,m4⟩:=hh;dsimp only at Wg Z1 I4;by_cases Ih:er=0
   ·subst Ih;have h2:=Z1.o;rw[if_neg (by simp)]at h2;obtain⟨m5,Gz,Gg⟩:=Fi h2;have FR:=CH I4.o.mg.has Gz;have NK:=Fh (I4.o.new ((aa.refl (λ_=>False) w4).drew));have hgr:=B7 NK.o.mg.has p4.GB a l m5 FR.1 FR.2 (by omega) Gz;rw[<-HSS.o]at hgr;have HGR:=Fh hgr;have FK:=Fh Gg;have x0:=I4.o.pt.cell 0;have x1:=I4.o.pt.cell 1;have Gu:aa (au O) w4 w4.drew/\w4.drew.cell? ⟨pb,0,none⟩=some (.pointer (some ⟨O.mb,0,none⟩))/\w4.drew.cell? ⟨pb,1,none⟩=some (.int .i64 (p4.GB:Int)):=⟨(aa.refl _ w4).drew,NK.o.pt.cell 0,NK.o.pt.cell 1⟩;clear h2 Gz Gg hgr;go_wp2_with fail
    go_region_held3 (λw'=>aa (au O) w4 w'/\w'.cell? ⟨pb,0,none⟩=some (.pointer (some ⟨O.mb,0,none⟩))/\w'.cell? ⟨pb,1,none⟩=some (.int .i64 (p4.GB:Int)))
     (first|assumption)
     (first
     |((go_at_call 98;refine HGR.o.mono ?_);rintro e w6 ⟨rfl,Hm⟩;have KD:=NK.o.on H0.o Hm;have OB:aa (au O) w4 w6/\w6.cell? ⟨pb,0,none⟩=some (.pointer (some ⟨O.mb,0,none⟩))/\w6.cell? ⟨pb,1,none⟩=some (.int .i64 (p4.GB:Int)):=⟨((aa.refl _ w4).drew).trans Hm.kept,KD.pt.cell 0,KD.pt.cell 1⟩;have v1f:=KD.pt.frozen 1;have Kg:=Fh KD;clear KD Hm))
    have v1:w6.cell? ⟨pb,1,none⟩=some (.int .i64 (p4.GB:Int)):=Kg.o.pt.cell 1;have LI:=Fh (Kg.o.GB H0.o a);have hgl5:p4.gone.length<=1000000000+2000000*(j+1):=Nat.le_trans Wg (by rw[Nat.mul_add];omega);go_wp2_with fail;exact⟨⟨j+1,_,_,_,by omega,by go_num,LI,FK,hgl5⟩,by simp;omega⟩
   ·have h2:=Z1.o;rw[if_pos (by simpa using Ih)]at h2;have HQ:=Fh (Fk h2);have z:¬((er:Int)=0):=by omega
    clear h2;go_wp2_with fail
    try rw[Exit.noGoto_ret]
    go_ret;rw[<-HQ.o];exact⟨rfl,⟨_,I4.o⟩,by show p4.gone.length<=_;omega⟩
  ·have hd:ls.reverse.drop j= []:=List.drop_eq_nil_of_le (by simp;have:=HN.o;omega);have hv:=HV'.o;rw[hd,JL]at hv;have HQ:=Fh (Fk hv);clear hd hv;go_wp2_with fail
   try rw[Exit.noGoto_ret]
   go_ret;rw[<-HQ.o];exact⟨rfl,⟨_,HP'.o⟩,by show p'.gone.length<=_;omega⟩
end
theorem AF{c:Nat}{p:Pw}{m:Mm}{q:(Nat×Nat×Pw)×Mm}(hv:pJ c p m=some q):c<=9:=by
 obtain⟨r,h1,_⟩:=Fi hv;unfold mn at h1;rw[show m.slots+m.Fq+2=(m.slots+m.Fq+1)+1 from rfl,jK]at h1;obtain⟨t,h2,_⟩:=Fi h1;unfold dd at h2;by_cases hc:1<=c/\c<=9
 ·exact hc.2
 ·rw[if_neg hc]at h2;cases h2
section
variable{O:av}{μ:Mm}{w:World}
theorem CJ(h:ao O μ w){a name typ en:Nat}{l:List UInt8}{m':Mm}(hv:kX a name typ en l μ=some m'):a<4294967000/\name<4294967296:=by
 unfold kX at hv;by_cases hl:(aP l).2≠0
 ·rw[if_pos hl]at hv;cases hv
 ·rw[if_neg hl]at hv;obtain⟨_,h2,h3⟩:=Fi hv;obtain⟨_,h4,_⟩:=Fi h3;refine⟨pQ h h4,?_⟩;unfold kW at h2;by_cases hu:name=0
  ·omega
  ·rw[if_neg hu]at h2;obtain⟨_,h5,_⟩:=Fi h2;obtain⟨_,h6,_⟩:=Fi h5;have:=ia h h6;omega
variable{pb:Nat}{p:Pw}{vk:Value}{W W':World}
theorem D0(h0:ao O μ w){m:Mm}(h:Nn O w pb p vk m W)(typ en:Nat)(ht:typ<65536)(he:en<18446744073709551616)(l:List UInt8)(u:Value)(hb:∀W',aa (λk=>au O k\/k=pb) w W'->gK W' u l)(ho:∀k,u.ownBlock=some k->¬au O k)(hlg:p.gone.length<=5000000000)(hl:l.length<=100000)(q:(Nat×Pw)×Mm)(hv:CB typ en l p m=some q):
  Calls prog 46 #[.pointer (some ⟨pb,0,none⟩),.int .u16 (typ:Int),.int .u64 (en:Int),u] W λe w'=>e= .returned (.int .i64 (q.1.1:Int))/\∃Yr,Nn O w pb q.1.2 Yr q.2 w':=by
 unfold CB at hv;by_cases hec:(bD l.length).2≠0
 ·rw[if_pos hec]at hv;cases hv
 rw[if_neg hec]at hv;have hec0:(bD l.length).2=0:=by omega
 obtain⟨hh,h1,h2⟩:=Fi hv;have Uk:=AF h1;have LY:=λW (hs:Sz W)=>qM l.length W hs (by omega);simp only [hec0]at LY;obtain⟨Wg,IT⟩:=rZ h.mg.has h1;obtain⟨cl,GI⟩:=Fp ((bD l.length).1);rw[<-GI]at Uk h1 IT;simp only [<-GI]at LY;have LH:=Fh (LY W h.mg.has.env.Hk);have H0:=Fh h0;have HP:=Fh h;have HB:=Fh hb;have HO:=Fh ho;have Z1:=Fh h2;have HHV:=Fh (vA h0 h (by omega) cl (by omega) hh h1 (by omega) IT);obtain⟨g,o,c,rfl,_,_⟩:=hb w (aa.refl _ _);clear h h0 hb ho hv hec hec0 h1 h2 LY GI;go_in;go_wp2_with fail;refine LH.o.mono ?_;rintro e w3⟨rfl,rfl⟩;go_wp2_with fail;refine HHV.o.mono ?_;rintro e w4⟨rfl,vk4,I8⟩;have I4:=Fh I8;clear I8;obtain⟨⟨a,er,p4⟩,m4⟩:=hh;dsimp only at Wg Z1 I4;by_cases Ih:er=0
 ·subst Ih;have h2:=Z1.o;rw[if_neg (by simp)]at h2;obtain⟨m5,Gz,Gg⟩:=Fi h2;have FR:=CJ I4.o.mg.has Gz;have NK:=Fh (I4.o.new ((aa.refl (λ_=>False) w4).drew));have HGR:=Fh (Ce NK.o.mg.has a p4.GB typ en l _ m5 FR.1 FR.2 ht he (HB.o _ NK.o.mg.kept) HO.o Gz);have HQ:=Fh (Fk Gg);have x0:=I4.o.pt.cell 0;have x1:=I4.o.pt.cell 1;have Gu:aa (au O) w4 w4.drew/\w4.drew.cell? ⟨pb,0,none⟩=some (.pointer (some ⟨O.mb,0,none⟩))/\w4.drew.cell? ⟨pb,1,none⟩=some (.int .i64 (p4.GB:Int)):=⟨(aa.refl _ w4).drew,NK.o.pt.cell 0,NK.o.pt.cell 1⟩;clear h2 Gz Gg;go_wp2_with fail
  go_region_held3 (λw'=>aa (au O) w4 w'/\w'.cell? ⟨pb,0,none⟩=some (.pointer (some ⟨O.mb,0,none⟩))/\w'.cell? ⟨pb,1,none⟩=some (.int .i64 (p4.GB:Int)))
   (first|assumption)
   (first
   |((go_at_call 100;refine HGR.o.mono ?_);rintro e w6 ⟨rfl,Hm⟩;have KD:=NK.o.on H0.o Hm;have OB:aa (au O) w4 w6/\w6.cell? ⟨pb,0,none⟩=some (.pointer (some ⟨O.mb,0,none⟩))/\w6.cell? ⟨pb,1,none⟩=some (.int .i64 (p4.GB:Int)):=⟨((aa.refl _ w4).drew).trans Hm.kept,KD.pt.cell 0,KD.pt.cell 1⟩;have v1f:=KD.pt.frozen 1;have Kg:=Fh KD;clear KD Hm))
  have v1:w6.cell? ⟨pb,1,none⟩=some (.int .i64 (p4.GB:Int)):=Kg.o.pt.cell 1;have LI:=Fh (Kg.o.GB H0.o 0);go_wp2;go_ret;rw[<-HQ.o];exact⟨rfl,_,LI.o⟩
 ·have h2:=Z1.o;rw[if_pos (by simpa using Ih)]at h2;have HQ:=Fh (Fk h2);have z:¬((er:Int)=0):=by omega
  clear h2;go_wp2;go_ret;rw[<-HQ.o];exact⟨rfl,_,I4.o⟩
end
theorem D1(N:Nat->Prop)(A:Option Addr)(c:Nat)(l:List (List UInt8))(w:World)(hr:bG N w A l)(hl:l.length<1099511627776)(hx:∀x∈l,x.length<1099511627776)(hv:(bS l).2≠0):Calls prog 40 #[.slice A l.length c] w λe w'=>e= .returned (.tuple #[.slice none 0 0,.int .i64 (bS l).2])/\Below w.heap.size w w':=by
 have LW:=Fh (rO N A c l w hl hx hr);obtain⟨er,Ih⟩:=Fp ((bS l).2);rw[<-Ih]at LW hv⊢;have z:decide (er=0)=false:=by simp[hv]
 obtain⟨n,hn⟩:=Fp l.length;rw[<-hn]at LW⊢;clear hr hl hx Ih hn;go_in;go_wp2_with fail;refine LW.o.mono ?_;rintro e w1⟨rfl,rfl⟩;go_wp2;go_ret2;exact⟨rfl,Below.refl _ _⟩
theorem pR{P:Program}{fn:Func}{t u:Tmp}{tmps:Array Value}{R:Ending->World->Prop}{w:World}(h:fn.results= #[.tmp t,.tmp u])(hR:R (.returned (.tuple #[tmps.getD t undef,tmps.getD u undef])) w):bodyPostD P fn R .ret {tmps:=tmps,defers:= []} w:=⟨_,results_tmp2 h _ _ _,hR⟩
theorem sd{P:Program}{fn:Func}{t u:Tmp}{tmps:Array Value}{R:Ending->World->Prop}{w:World}(h:fn.results= #[.tmp t,.tmp u])(hR:R (.returned (.tuple #[tmps.getD t undef,tmps.getD u undef])) w):Leaves P fn tmps R [] (settle .returning) w:=⟨_,results_tmp2 h _ _ _,hR⟩
theorem se{μ:Mm}:∀(l:List (List UInt8)) (a n:Nat) (q:Nat×Nat),dW μ l a n=some q->q.2<=n+l.length
 | [],a,n,q,h=>by
  rw[dW]at h;rw[<-Fk h];simp
 |x::l,a,n,q,h=>by
  rw[dW]at h;obtain⟨d,_,h2⟩:=Fi h;by_cases hd:d=0
  ·rw[if_pos hd]at h2;rw[<-Fk h2];simp
  ·rw[if_neg hd]at h2;have:=se l d (n+1) q h2;simp;omega
theorem D2{μ m:Mm}{ls:List (List UInt8)}{q:Nat×Nat}(h:tS ls μ=some (q,m)):q.2<=ls.length:=by
 unfold tS at h;by_cases hc:aI ls≠0
 ·rw[if_pos hc]at h;cases h
 ·rw[if_neg hc]at h;obtain⟨k,h1,h2⟩:=Fi h;obtain⟨m1,_,h3⟩:=Fi h2;have e:k=q:=congrArg Prod.fst (Fk h3);rw[<-e];have:=se ls.reverse 0 0 k h1;simpa using this
section
variable{O:av}{μ:Mm}{w:World}{cb bk d pb:Nat}{p:Pw}{vk:Value}{W W':World}
theorem pS(h0:ao O μ w){m m':Mm}(h:Nn O w pb p vk m W)(hp:p.GB<4294967296)(hv:fH p.GB m=some m'):CallsD prog 42 #[.pointer (some ⟨pb,0,none⟩)] .returning W λe u' w'=>u'= .returning/\e= .returned (.tuple #[])/\Nn O w pb p vk m' w'/\MG O W m' w':=by
 have HP:=Fh h;have x0:=h.pt.cell 0;have x1:=h.pt.cell 1;have HD:=Fh (uQ (HP.o.new ((aa.refl (λ_=>False) W).drew)).mg.has p.GB m' hp hv);have H0:=Fh h0;by_cases hz:p.GB=0
 ·unfold fH at hv;rw[if_pos hz]at hv;have hv:=Fk hv;subst hv;rw[hz]at x1;clear h h0 HD
  go_enter_d func42,ntmps42
  go_wp2;go_end0;exact⟨rfl,HP.o,MG.refl HP.o.mg.has⟩
 ·have z:¬((p.GB:Int)=0):=by omega
  have x0d:W.drew.cell? ⟨pb,0,none⟩=some (.pointer (some ⟨O.mb,0,none⟩)):=x0;have x1d:W.drew.cell? ⟨pb,1,none⟩=some (.int .i64 (p.GB:Int)):=x1;clear h h0 hv;have Gu:aa (au O) W W.drew/\W.drew.cell? ⟨pb,0,none⟩=some (.pointer (some ⟨O.mb,0,none⟩))/\W.drew.cell? ⟨pb,1,none⟩=some (.int .i64 (p.GB:Int)):=⟨(aa.refl _ W).drew,x0d,x1d⟩;clear x0d x1d
  go_enter_d func42,ntmps42
  go_wp2_with fail
  go_region_held3 (λw'=>aa (au O) W w'/\w'.cell? ⟨pb,0,none⟩=some (.pointer (some ⟨O.mb,0,none⟩))/\w'.cell? ⟨pb,1,none⟩=some (.int .i64 (p.GB:Int)))
   (first|assumption)
   (first
   |((go_at_call 91;refine HD.o.mono ?_);rintro e w6 ⟨⟨nn,rfl⟩,Hm⟩;have KD:=(HP.o.new ((aa.refl (λ_=>False) W).drew)).on H0.o Hm;have OB:aa (au O) W w6/\w6.cell? ⟨pb,0,none⟩=some (.pointer (some ⟨O.mb,0,none⟩))/\w6.cell? ⟨pb,1,none⟩=some (.int .i64 (p.GB:Int)):=⟨((aa.refl _ W).drew).trans Hm.kept,KD.pt.cell 0,KD.pt.cell 1⟩;have Kg:=Fh KD;have GP:=Fh Hm;clear KD Hm))
  go_end0;exact⟨rfl,Kg.o,GP.o.has,OB.1⟩
theorem D3(now Gv:Nat):FC.oJ now Gv<18446744073709551616:=by
 unfold FC.oJ;split
 ·decide
 ·unfold FC.fe;omega
theorem yE{B w2:World}{m0 m1:Mm}(kB:MG O w m0 B)(Ps:w.heap.size<=pb)(m2:MX O pb B m1 w2):MG O w m1 w2:=
 ⟨m2.has,⟨m2.kept.os.trans kB.kept.os,m2.kept.tape.trans kB.kept.tape,m2.kept.output.trans kB.kept.output,Nat.le_trans kB.kept.size m2.kept.size,λk hl hn=>by
  have l1:=Nat.lt_of_lt_of_le hl kB.kept.size;rw[m2.kept.block k l1 (by rintro(e|e)<;>first|exact hn e|omega),kB.kept.block k hl hn]⟩⟩
theorem vB(h:ao O μ w){a:Nat}{m':Mm}(hv:fH a μ=some m'):a<4294967296:=by
 unfold fH at hv;by_cases ha:a=0
 ·omega
 ·rw[if_neg ha]at hv;unfold qU at hv;obtain⟨_,h1,_⟩:=Fi hv;have:=ia h h1;omega
theorem yF(h:dt cb bk O μ 0 w)(hm:jL O w)(nm:ByteArray)(hl:nm.size<=100000)(typ:Nat)(ht:typ<65536)(N:Nat->Prop)(A:Option Addr)(c:Nat)(l:List (List UInt8))(hr:bG N w A l)(G1:l.length<1099511627776)(hlx:∀x∈l,x.length<1099511627776)(Gv:Nat)(Xc:Gv<18446744073709551616)
  (q:(List Ky×Int)×Mm) (hv:jJ nm.data.toList typ l Gv μ=some q):
  Calls prog 11 #[.pointer (some ⟨cb,0,none⟩),.agg #[.string nm,.int .u16 (typ:Int)],.slice A l.length c,.int .u64 (Gv:Int)] w λe w'=>∃vk,e= .returned (.tuple #[vk,.int .i64 q.1.2])/\dK w.heap.size w' vk q.1.1/\MG O w q.2 w':=by
 have HH:=Fh h.m;have GN:=(CG.of h).alloc (.cells #[.string nm,.int .u16 (typ:Int)] 40);obtain⟨w1,FJ⟩:=Fp (w.alloc (.cells #[.string nm,.int .u16 (typ:Int)] 40));have ka1:aa (λ_=>False) w w1:=by rw[FJ];exact(aa.refl _ _).alloc _
 have JQ:Whole w1 w.heap.size 40 #[.string nm,.int .u16 (typ:Int)]:=by rw[FJ];exact Whole.new _ _ _
 have LZ:=h.m.Fu (Fm _);have IZ:=hm.kept (W:=w1) (by rw[FJ];exact(aa.refl _ w).alloc _);have hp:=rF nm.data.toList w1 IZ.m (by simpa using hl);rw[uK]at hp;obtain⟨Ho,Z0⟩:= @pO nm.data.toList;obtain⟨P,hP⟩:=Fp (aC nm.data.toList);unfold jJ at hv;rw[<-hP]at hp Ho Z0 hv;obtain⟨ls,er⟩:=P;rw[<-FJ]at GN;have GF:=fw GN.has;rw[if_neg (Nat.lt_irrefl 0)]at GF;have RH:=Fh GF;have JS:=Fh GN;have X7:=Fh JQ;have Nd:=Fh hp;have HPX:=Fh Z0;have Gp:bG N w1 A l:=hr.kept ka1 λ_ _=>id;have J5:=Fh Gp;have HKA:=Fh ka1;have k0:=JQ.cell 0;have k1:=JQ.cell 1;obtain⟨n,hn⟩:=Fp l.length;have HNN:=Fh hn;dsimp only at Ho hv;clear h hm GN JQ hp Z0 hP hr IZ ka1 Gp GF;by_cases Ih:er=0
 case neg=>
  rw[if_pos Ih]at hv;have HQ:=Fh (Fk hv);have z:decide (er=0)=false:=by simp[Ih]
  rw[<-hn];clear hv hn
  go_enter_defers func11,ntmps11
  go_upto_region 1 with fail;rw[<-FJ];clear FJ;go_wp2_with fail;refine RH.o.mono ?_;rintro e w2⟨rfl,rfl⟩;go_wp2_with fail;refine Nd.o.mono ?_;rintro e w3⟨A1,c1,rfl,Gh,Lm,Gf,hA⟩;have IP:=Fh (JS.o.below Gf);clear Gh Lm Gf hA;go_wp2_with fail;refine pR rfl ?_;rw[<-HQ.o];exact⟨_,rfl,dm _ _ _ _,IP.o.mg⟩
 subst Ih;rw[if_neg (by simp)]at hv;by_cases F8:(bS l).2=0
 case neg=>
  rw[if_pos F8]at hv;have HQ:=Fh (Fk hv);have HPN:=Fh (λW (hr:bG N W A l)=>D1 N A c l W hr G1 hlx F8);obtain⟨er,Ih⟩:=Fp ((bS l).2);rw[<-Ih]at HPN HQ F8;rw[<-hn]at HPN⊢;have z:decide (er=0)=false:=by simp[F8]
  clear hv hn Ih
  go_enter_defers func11,ntmps11
  go_upto_region 1 with fail;rw[<-FJ];clear FJ;go_wp2_with fail;refine RH.o.mono ?_;rintro e w2⟨rfl,rfl⟩;go_wp2_with fail;refine Nd.o.mono ?_;rintro e w3⟨A1,c1,rfl,Gh,Lm,Gf,hA⟩;have IP:=Fh (JS.o.below Gf);have Pt:=Fh (HPN.o w3 (J5.o.below Gf));clear Gh Lm Gf hA;go_wp2_with fail;refine Pt.o.mono ?_;rintro e w4⟨rfl,Gk⟩;have L8:=Fh (IP.o.below Gk);clear Gk;go_wp2_with fail;refine pR rfl ?_;rw[<-HQ.o];exact⟨_,rfl,dm _ _ _ _,L8.o.mg⟩
 rw[if_neg (by simpa using F8)]at hv;obtain⟨⟨⟨GB,nk⟩,m0⟩,F6,hv⟩:=Fi hv;obtain⟨UP,F0,hv⟩:=Fi hv;obtain⟨m1,GM,hv⟩:=Fi hv;obtain⟨⟨⟨er,pw⟩,m2⟩,JF,hv⟩:=Fi hv;obtain⟨⟨⟨er2,pw2⟩,m3⟩,Lk,hv⟩:=Fi hv;obtain⟨m4,NG,X8⟩:=Fi hv;dsimp only at F6 F0 GM JF Lk NG X8;have HQ:=Fh (Fk X8);have JA:aI ls=0:=by
  unfold tS at F6;by_cases hc:aI ls=0
  ·exact hc
  ·rw[if_pos hc]at F6;cases F6
 have RJ:=bQ JA;have HNKL0:Hid (nk<=ls.length):=Fh (D2 F6);have Qn:=Fh F0;have HV3:=Fh GM;have Tv:=Fh JF;have HV5:=Fh Lk;have HV6:=Fh NG;have ZA:=Fh (λW (hr:bG N W A l)=>DK N A c l W hr F8);have HPI:=Fh (λW (hg:CG cb bk O 0 w μ W) A1 c1 (hr:iZ O W A1 ls)=>DF hg.mg.has A1 c1 ls (GB,nk) m0 hr (by omega) (by omega) (λs hs=>by have:=HPX.o s hs;omega) F6);rw[<-hn]at ZA⊢;obtain⟨nl,RT⟩:=Fp ls.length;rw[<-RT]at HPI;have Yh:=Fh RT;have HNKL:Hid (nk<=nl):=Fh (by rw[RT];exact HNKL0.o);have hpl':nl<=255:=by rw[RT];exact Ho
 clear hv F6 F0 GM JF Lk NG X8 hn JA Ho
 go_enter_defers func11,ntmps11
 go_upto_region 1 with fail;rw[<-FJ];clear FJ;go_wp2_with fail;refine RH.o.mono ?_;rintro e w2⟨rfl,rfl⟩;go_wp2_with fail;refine Nd.o.mono ?_;rintro e w2⟨A1,c1,rfl,Gh,Lm,FF,hA⟩;have VM:(ls,(0:Int)).1.length=nl:=RT.symm;rw[VM];have Mj:=Fh (JS.o.below FF);have Mk:=Fh (ZA.o w2 (J5.o.below FF));have Jc:=(aa.below FF (λ_=>False)).whole X7.o id;have Yb:Hid (∀W,aa (au O) w2 W->iZ O W A1 ls):=Fh λW hk=>iZ.kept ⟨Gh,λa ha=>JS.o.mg.has.Fu (hA a ha)⟩ hk;have HA1:Hid (ls≠ []->∀a,A1=some a->a.block<w2.heap.size):=Fh λhne a ha=>by
  obtain⟨x,r,hx⟩:=List.exists_cons_of_ne_nil hne;obtain⟨b,off,e,hc⟩:=Gh 0 _ (by rw[hx];rfl);have e1:a=⟨b,off,none⟩:=Fk (ha.symm.trans e);rw[e1];exact ap hc
 have HLC:Hid (nl<=c1):=Fh (by rw[RT];exact Lm);clear Gh Lm FF hA VM RT k0 k1;go_wp2_with fail;refine Mk.o.mono ?_;rintro e w3⟨u,rfl,VT,Gf⟩;have IP:=Fh (Mj.o.below Gf);have VU:=Fh VT;have HPI3:=Fh (HPI.o w3 IP.o A1 c1 (Yb.o w3 (aa.below Gf _)));obtain⟨_,x0,x1⟩:=IP.o.held;have k3:=(aa.below Gf (λ_=>False)).whole Jc id;clear Jc VT;go_wp2_with fail;refine HPI3.o.mono ?_;rintro e w4⟨rfl,F9⟩;have L8:=Fh (IP.o.on F9);clear x0 x1;obtain⟨_,x0,x1⟩:=L8.o.held;have k4:=F9.kept.whole k3 LZ;obtain⟨w5,IR⟩:=Fp (w4.alloc (.cells #[.pointer (some ⟨O.mb,0,none⟩),.int .i64 (GB:Int),.slice none 0 0] 97));obtain⟨pb,Kv⟩:=Fp w4.heap.size;have ka5:aa (λ_=>False) w4 w5:=by rw[IR];exact(aa.refl _ _).alloc _
 have k5:=ka5.whole k4 id;have SI:Whole w5 pb 97 #[.pointer (some ⟨O.mb,0,none⟩),.int .i64 (GB:Int),.slice none 0 0]:=by rw[IR,Kv];exact Whole.new _ _ _
 have Ni:Hid (CG cb bk O 0 w m0 w5):=Fh (by rw[IR];exact L8.o.alloc _);have hwpb:w.heap.size<=pb:=by rw[Kv];exact L8.o.mg.kept.size
 have hw2pb:w2.heap.size<=pb:=by rw[Kv];exact Nat.le_trans Gf.size F9.kept.size
 have HL5:=Fh (Yb.o w5 (((aa.below Gf _).trans F9.kept).trans (ka5.mono λ_ _ e=>e.elim)));have hu5:=aj (aj VU.o F9.kept λk hk e=>Mj.o.mg.has.Fu (aF VU.o hk).1 e) ka5 λ_ _=>id;have hupb:∀k,u.ownBlock=some k->k<pb:=λk hk=>by rw[Kv];exact Nat.lt_of_lt_of_le (aF VU.o hk).2 F9.kept.size
 have HU5:=Fh (And.intro hu5 hupb);have MF:=Fh (And.intro SI k5);have Jv:=Fh (rQ Ni.o.has A1 c1 ls typ UP HL5.o (by rw[<-Yh.o];omega) (λs hs=>by have:=HPX.o s hs;omega) ht Qn.o);rw[<-Yh.o]at Jv;have y1:=k5.cell 1;go_upto_region 15 with fail;rw[<-IR,<-Kv];clear IR Kv k3 k4 k5 ka5 SI hu5 hupb x0 x1 F9;obtain⟨_,x0,x1⟩:=Ni.o.held;go_wp2_with fail;refine Jv.o.mono ?_;rintro e w6⟨rfl,Hm⟩;have UU:=Fh (Ni.o.on Hm);have GP:=Fh Hm;clear Hm x0 x1 y1;obtain⟨_,x0,x1⟩:=UU.o.held;have hold:UP<4294967296:=nh Qn.o;obtain⟨kk,KZ⟩:=Fp (nl-nk);have Ys:nk<=nl:=HNKL.o;have hwk:IntKind.i64.wrap ((nl:Int)-(nk:Int))=(kk:Int):=by rw[IntKind.wrap_i64];omega
 have Zf:kk<=nl:=by omega
 have TN:kk<=c1:=by have:=HLC.o;omega
 have hlen:(ls.take kk).length=kk:=by rw[List.length_take,<-Yh.o];omega
 have HV4':Hid (JL (ls.take kk).reverse ⟨GB,[]⟩ m1=some ((er,pw),m2)):=Fh (by rw[KZ,Yh.o];exact Tv.o);have K8:=Fh hlen;clear KZ hlen Ys;by_cases ho0:UP=0
 case' pos=>
  have IZ:=HV3.o;rw[if_neg (by simpa using ho0)]at IZ;have IZ:=Fk IZ;subst IZ ho0;obtain⟨w7,rfl⟩:=Fp w6;have UH:=UU;have Iv:=GP;go_wp2_with fail
 case' neg=>
  have IZ:=HV3.o;rw[if_pos (by simpa using ho0)]at IZ;have Zo:=Fh (rR UU.o.has UP m1 hold IZ);have z:¬((UP:Int)=0):=by omega
  clear IZ;go_wp2_with fail;refine Zo.o.mono ?_;rintro e w7⟨rfl,J1⟩;have UH:=Fh (UU.o.on J1);have Iv:=Fh (GP.o.trans J1);clear J1 x0 x1;obtain⟨_,x0,x1⟩:=UH.o.held;go_wp2_with fail
 all_goals
  have IJ:¬eX O pb:=λe=>by have:=HH.o.lt e;omega
  have hpt7:Nn O w5 pb ⟨GB,[]⟩ (.slice none 0 0) _ w7:=⟨⟨Iv.o.has,Iv.o.kept.mono λ_ _ e=> .inl e⟩,IJ,Iv.o.kept.whole MF.o.1 (λe=>IJ (pL e)),dm _ _ _ _⟩;have hgw:=CI Ni.o.has.m hpt7 A1 c1 (ls.take kk) (HL5.o.take kk) (λhne a ha=>by have:=HA1.o (λe=>hne (by rw[e];simp)) a ha;omega) (by rw[K8.o];omega) (λs hs=>HPX.o s (List.mem_of_mem_take hs)) (by simp) _ HV4'.o;rw[K8.o]at hgw;have TA:=Fh hgw;clear hgw hpt7;refine TA.o.mono ?_;rintro e w8⟨rfl,⟨vk8,hp8⟩,hgo8⟩;have O7:=Fh hp8;have y2:=hp8.pt.cell 2;clear hp8 x0 x1;by_cases Ih:er=0
  case' pos=>
   have h5:=HV5.o;rw[if_neg (by simpa using Ih)]at h5;obtain⟨now,h6,h7⟩:=Fi h5;have RT:=uY h6;have Z3:=Fh (O7.o.new ((aa.refl (λ_=>False) w8).drew));have KR:=Fh (pq Z3.o.mg.has now h6);have HV7:=Fh h7;have hcb5:=Ni.o.c;have hkb5:=MF.o.2;have hcbn:cb≠pb:=λe=>by
    have:=aE (e▸hcb5) MF.o.1 (by decide) rfl;exact this
   have hkbn:w.heap.size≠pb:=λe=>by
    have:=aE (e▸hkb5) MF.o.1 (by decide) rfl;exact this
   have HI:Hid (∀W,aa (λk=>au O k\/k=pb) w5 W->aa (λk=>au O k\/k=pb) w5 W/\W.cell? ⟨w.heap.size,1,none⟩=some (.int .u16 (typ:Int))/\W.cell? ⟨cb,0,none⟩=some (.pointer (some ⟨O.mb,0,none⟩))):=Fh λW hk=>⟨hk,(hk.whole hkb5 (by rintro(e|e);exact LZ e;exact hkbn e)).cell 1,(hk.whole hcb5 (by rintro(e|e);exact Ni.o.n0 e;exact hcbn e)).cell 0⟩;have Gu:=HI.o _ Z3.o.mg.kept;have Wc:Hid (∀W',aa (λk=>au O k\/k=pb) w5 W'->gK W' u (bU l)):=Fh λW' hk=>by
    have ho:=aj HU5.o.1 hk λk hk e=>by
     rcases e with e|e
     ·exact Mj.o.mg.has.Fu (aF HU5.o.1 hk).1 e
     ·have:=HU5.o.2 k hk;omega
    obtain⟨Au,cu,hu⟩:=aw ho;subst hu;obtain⟨g,rfl,_,Lm,GI⟩:=bC ho (by rw[kq];omega) (by decide);exact⟨g,0,cu,rfl,Lm,λi x hx=>by rw[Nat.zero_add];exact GI i _ (by unfold ay;rw[List.getElem?_map,hx];rfl)⟩
   have HUO:Hid (∀k,u.ownBlock=some k->¬au O k):=Fh λk hk=>Mj.o.mg.has.Fu (aF HU5.o.1 hk).1;have hpk:(bU l).length<=100000:=by
    have:=(jF F8);rw[kq];omega
   clear h5 h6 h7 y2;go_wp2_with fail
   go_region_held3 (λw'=>aa (λk=>au O k\/k=pb) w5 w'/\w'.cell? ⟨w.heap.size,1,none⟩=some (.int .u16 (typ:Int))/\w'.cell? ⟨cb,0,none⟩=some (.pointer (some ⟨O.mb,0,none⟩)))
    (first|assumption)
    (first
    |((go_at_call 48;refine KR.o.mono ?_);rintro e LV ⟨rfl,Ro⟩;have Sy:=Z3.o.on Ni.o.has.m Ro;have hs10:=HI.o _ Sy.mg.kept;have NC:=Fh Sy;clear Sy Ro)
    |((go_at_call 47;refine(DJ now Gv LV RT Xc).mono ?_);rintro e NU ⟨rfl,Sj⟩;have Z4:=NC.o.new (aa.below Sj (λ_=>False));have hs11:=HI.o _ Z4.mg.kept;have Lj:=Fh Z4;clear Z4 Sj)
    |((go_at_call 46;refine(D0 Ni.o.has.m Lj.o typ (FC.oJ now Gv) ht (D3 now Gv) (bU l) u Wc.o HUO.o (Nat.le_trans hgo8 (by decide)) hpk _ HV7.o).mono ?_);rintro e T5 ⟨rfl,vk12,Xd⟩;have hs12:=HI.o _ Xd.mg.kept;have z2:=Xd.pt.cell 2;have JI:=Fh Xd;clear Xd))
   go_wp2_with fail;refine leaves_cons (f:=42) (args:= #[.pointer (some ⟨pb,0,none⟩)]) (by simp) (by simp[go_sem]) ?_;refine(pS Ni.o.has.m JI.o (vB JI.o.mg.has HV6.o) HV6.o).mono ?_;rintro e u' w9⟨rfl,rfl,Sx,UQ⟩;refine sd rfl ?_;rw[<-HQ.o];exact⟨vk12,rfl,aS (aj JI.o.ok UQ.kept (cr Ni.o.has.m JI.o.ok)) Ni.o.mg.kept.size,yE Ni.o.mg hwpb Sx.mg⟩
  case' neg=>
   have h5:=HV5.o;rw[if_pos (by simpa using Ih)]at h5;have h5:=Fk h5;have e1:er=er2:=congrArg (λx:(Nat×Pw)×Mm=>x.1.1) h5;have e2:pw=pw2:=congrArg (λx:(Nat×Pw)×Mm=>x.1.2) h5;have e3:m2=m3:=congrArg (λx:(Nat×Pw)×Mm=>x.2) h5;subst e1 e2 e3;have z:¬((er:Int)=0):=by omega
   clear h5;go_wp2_with fail;refine leaves_cons (f:=42) (args:= #[.pointer (some ⟨pb,0,none⟩)]) (by simp) (by simp[go_sem]) ?_;refine(pS Ni.o.has.m O7.o (vB O7.o.mg.has HV6.o) HV6.o).mono ?_;rintro e u' w9⟨rfl,rfl,Sx,UQ⟩;refine sd rfl ?_;rw[<-HQ.o];exact⟨vk8,rfl,aS (aj O7.o.ok UQ.kept (cr Ni.o.has.m O7.o.ok)) Ni.o.mg.kept.size,yE Ni.o.mg hwpb Sx.mg⟩
end
theorem bG.get{N:Nat->Prop}{w:World}{A:Option Addr}{l:List (List UInt8)}(h:bG N w A l){k:Nat}(hk:k<l.length):∃b off Au cu,A=some ⟨b,off,none⟩/\w.cell? ⟨b,off+k,none⟩=some (.slice Au l[k].length cu)/\aM w Au (ay l[k]):=by
 obtain⟨b,off,Au,cu,e,_,h1,h2,_⟩:=h k l[k] (by simp[hk]);exact⟨b,off,Au,cu,e,h1,h2⟩
theorem sf{P:Program}{src e:TypeId}(hs:P.underlying src=some (.slice e))(he:P.underlying e=some (.int .u8))(w:World)(A:Option Addr)(l:List UInt8)(c:Nat)(hr:aM w A (ay l))
  (dst:TypeId) (hd:P.underlying dst=some .string):(convert src dst (.slice A l.length c)).run P w= .ok (.string ⟨l.toArray⟩) w:=by
 rcases l with _|⟨x,l⟩
 ·rcases A with _|a
  ·exact lH hs he w none [] c (aM.nil _ _) (λa e=>by cases e) dst hd
  ·exact run_convert_bytes_back w src dst e a c [] hs he hd λj hj=>absurd hj (by simp)
 ·refine lH hs he w A (x::l) c hr (λa e=> ?_) dst hd;obtain⟨b,off,h,_⟩:=hr 0 _ rfl;subst h;cases e;rfl
def EL(l:List (List UInt8))(e:Ending):Prop:=e= .returned (.bool false)\/e= .returned (.bool true)/\l.length<=60/\∀x∈l,x.length<=3000
theorem CL(N:Nat->Prop)(A:Option Addr)(c:Nat)(l:List (List UInt8))(w:World)(hl:l.length<=maxLen)(hx:∀x∈l,x.length<=maxLen)(hr:bG N w A l):
  Calls prog 28 #[.slice A l.length c] w λe w'=>w'=w/\EL l e:=by
 have HR:=Fh hr;have HX:=Fh hx;unfold maxLen at hl;clear hr hx;go_in;go_wp2_with fail
 go_loop [3,4] (λs3 s4=>∃k n:Nat,k<=l.length/\s4= .int .i64 k/\s3= .int .i64 n/\n<=12999/\Hid (n<=3000->∀j,(h:j<k)->(h':j<l.length)->l[j].length<=3000)) (λ_ s4=>match s4 with| .int _ m=>l.length-m.toNat|_=>0)
 case atStart=>exact⟨0,0,Nat.zero_le _,rfl,rfl,by omega,Fh (λ_ j h=>absurd h (by omega))⟩
 case round=>
  obtain⟨k,n,hk,rfl,rfl,hn,H⟩:=hrel;by_cases FR:k<l.length
  ·by_cases WE:n<=3000
   ·obtain⟨b,off,Au,cu,rfl,hc,_⟩:=HR.o.get FR;have hm:=HX.o l[k] (List.getElem_mem _);unfold maxLen at hm;obtain⟨m,Yt⟩:=Fp (l[k].length);rw[<-Yt]at hc hm;have HM:=Fh Yt;clear Yt;go_wp2;go_round
    case rel=>
     refine⟨k+1,n+min m 9999,by omega,by go_num,?_,by omega,Fh λh3 j hj Yi=> ?_⟩
     ·first|rfl|(congr 1;omega)
     ·rcases Nat.lt_or_ge j k with h|h
      ·exact H.o WE j h Yi
      ·have:j=k:=by omega
       subst this;rw[<-HM.o];omega
    case measure=>simp;omega
   ·by_cases h6:l.length<=60
    ·go_wp2;go_ret;exact⟨rfl,.inl (aq (by simp;omega))⟩
    ·go_wp2;go_ret;exact⟨rfl,.inl rfl⟩
  ·by_cases h6:l.length<=60
   ·go_wp2;go_ret;refine⟨rfl,?_⟩;by_cases h3:n<=3000
    ·refine .inr ⟨aq (by simp;omega),h6,λx hx=> ?_⟩;obtain⟨j,hj,rfl⟩:=List.getElem_of_mem hx;exact H.o h3 j (by omega) hj
    ·exact .inl (aq (by simp;omega))
   ·go_wp2;go_ret;exact⟨rfl,.inl rfl⟩
theorem sg(N N':Nat->Prop)(A A':Option Addr)(c c':Nat)(l:List (List UInt8))(w:World)(hl:l.length<=maxLen)(hr:bG N w A l)(hr':bG N' w A' l):
  Calls prog 23 #[.slice A l.length c,.slice A' l.length c'] w λe w'=>e= .returned (.bool true)/\Below w.heap.size w w':=by
 have HR:=Fh hr;have HR':=Fh hr';unfold maxLen at hl;clear hr hr';go_in;go_wp2_with fail
 go_loopw [5] (λs5 wr=>∃k:Nat,k<=l.length/\s5= .int .i64 k/\Hid (Below w.heap.size w wr)) (λs5 _=>match s5 with| .int _ m=>l.length-m.toNat|_=>0)
 case atStart=>exact⟨0,Nat.zero_le _,rfl,Fh (Below.refl _ _)⟩
 case round=>
  obtain⟨k,hk,rfl,HB⟩:=hrel;by_cases FR:k<l.length
  ·obtain⟨b1,o1,A1,p1,rfl,GN,Gp⟩:=(HR.o.below HB.o).get FR;obtain⟨b2,o2,A2,p2,rfl,KQ,Gc⟩:=(HR'.o.below HB.o).get FR;have OC:∀q,(convert 73 9 (.slice A1 l[k].length p1)).run prog (wr.drewN q)= .ok (.string ⟨l[k].toArray⟩) (wr.drewN q):=λq=>sf (P:=prog) underlying73 underlying5 _ A1 l[k] p1 (Gp.drewN q) 9 underlying9;have Xg:∀q,(convert 73 9 (.slice A2 l[k].length p2)).run prog (wr.drewN q)= .ok (.string ⟨l[k].toArray⟩) (wr.drewN q):=λq=>sf (P:=prog) underlying73 underlying5 _ A2 l[k] p2 (Gc.drewN q) 9 underlying9;obtain⟨X,hX⟩:∃X:ByteArray,X=⟨l[k].toArray⟩:=⟨_,rfl⟩;obtain⟨xl,Pc⟩:=Fp (l[k].length);simp only [<-hX,<-Pc]at OC Xg GN KQ;clear hX Pc Gp Gc;go_wp2_with fail;go_quiet (fail);go_wp2;go_roundw
   case rel=>exact⟨k+1,by omega,by go_num,Fh (dv HB.o _)⟩
   case measure=>simp;omega
  ·go_wp2;go_ret;exact⟨rfl,HB.o⟩
theorem bW.kept{S:Nat->Prop}{B:Nat}{w w':World}{v:Value}{us:List Value}{l:List (List UInt8)}(h:bW B w v us l)(hk:aa S w w')(hs:∀k,B<=k->k<w.heap.size->¬S k):bW B w' v us l:=
 ⟨h.1,aj h.2.1 hk λk e=>hs k (aF h.2.1 e).1 (aF h.2.1 e).2,λi u x h1 h2=>aj (h.2.2 i u x h1 h2) hk λk e=>hs k (aF (h.2.2 i u x h1 h2) e).1 (aF (h.2.2 i u x h1 h2) e).2⟩
theorem bW.Mb{B:Nat}{w:World}{v:Value}{us:List Value}{l:List (List UInt8)}(h:bW B w v us l):∃A c,v= .slice A l.length c/\bG (λ_=>True) w A l:=by
 obtain⟨A,c,e,hr⟩:=h.at_;exact⟨A,c,e,hr.mono λ_ _=>trivial⟩
theorem sh(w:World)(cs:Array Value)(T:TypeId)(fz:Nat×Nat)(i:Nat)(v:Value)(k:Nat)(hk:w.heap.size=k)(h:cs[i]? =some v):(w.alloc (.cells cs T fz)).cell? ⟨k,i,none⟩=some v:=by
 subst hk;have h1:(w.alloc (.cells cs T fz)).heap[w.heap.size]? =some (.cells cs T fz):=by
  show(w.heap.push _)[w.heap.size]? =_;simp
 simp only [World.cell?,h1];exact h
theorem pT{O:av}{μ:Mm}{w W:World}(he:eB w)(hm:ao O μ W)(hf:xT w.heap.size O):jL O W:=by
 refine⟨hm.env.mx,λe=> ?_⟩;have h1:3<w.heap.size:=he.lt (.inr (.inr (.inr (.inr (.inr rfl)))));rcases e with e|e|e
 ·have:=hf.wb;omega
 ·have:=hf.gb;omega
 ·have:=hf.kb;omega
theorem kr{O:av}{n k:Nat}(hf:xT n O)(hk:k<n):¬au O k:=λe=>by
 rcases e with e|e|e
 ·have:=hf.wb;omega
 ·have:=hf.gb;omega
 ·have:=hf.kb;omega
theorem AH(w:World)(he:eB w):Calls prog 7 #[] w λe w'=>e= .returned (.bool true)/\Below w.heap.size w w':=by
 obtain⟨k0,k1,k2,k3,k4,k5,k6,k7⟩:=Xf;have HNW:=Fh (xV 7 224 w he (by kernel_rfl) N8 k0);have HE:=Fh he;have K1:=Fh k1;have K2:=Fh k2;have K3:=Fh k3;have K4:=Fh k4;have K5:=Fh k5;have K6:=Fh k6;have K7:=Fh k7;clear he k0 k1 k2 k3 k4 k5 k6 k7;rw[show((7:Nat):Int)=7 from rfl,show((224:Nat):Int)=224 from rfl]at HNW;go_in;go_wp2_with fail;refine HNW.o.mono ?_;rintro e w2⟨cb,bk,O,rfl,hc,SN,Na,Jg,FF⟩;have kc:=Lib.run_convert_bytes_const (P:=prog) (w2.alloc (.cells #[.string ⟨#[65,46,98]⟩,.int .u16 1] 40)) 73 5 #[.int .u8 120] 1 1 underlying73 underlying5;rw[World.size_alloc]at kc;have ka:∀(W:World) o,aa (λ_=>False) W (W.alloc o):=λW o=>(aa.refl _ W).alloc o;have y3:Whole (w2.alloc (.cells #[.string ⟨#[65,46,98]⟩,.int .u16 1] 40)) w2.heap.size 40 #[.string ⟨#[65,46,98]⟩,.int .u16 1]:=Whole.new _ _ _;have a0:=y3.cell 0;have a1:=y3.cell 1;obtain⟨w5,IR⟩:=Fp ((((w2.alloc (.cells #[.string ⟨#[65,46,98]⟩,.int .u16 1] 40)).alloc (.cells #[.int .u8 120] 5 (1,2))).alloc (.cells #[.slice (some ⟨w2.heap.size+1,0,none⟩) 1 1] 73)));have y5:Whole w5 w2.heap.size 40 #[.string ⟨#[65,46,98]⟩,.int .u16 1]:=by rw[IR];exact((ka _ _).trans (ka _ _)).whole y3 id
 have hc5:CG cb bk O 0 w2 N8 w5:=by rw[IR];exact(((CG.of hc).alloc _).alloc _).alloc _
 have hx5:w5.cell? ⟨w2.heap.size+1,0,none⟩=some (.int .u8 120):=by
  rw[IR];exact(ka _ _).cell (sh _ _ _ _ 0 _ _ (by simp) rfl) id
 have NW:w5.cell? ⟨w2.heap.size+1+1,0,none⟩=some (.slice (some ⟨w2.heap.size+1,0,none⟩) 1 1):=by
  rw[IR];exact sh _ _ _ _ 0 _ _ (by simp) rfl
 have hrec:bG (λ_=>True) w5 (some ⟨w2.heap.size+1+1,0,none⟩) [[120]]:=λi x hx=>by
  cases i with
  |succ i=>simp at hx
  |zero=>
   simp at hx;subst hx;refine⟨_,0,_,1,rfl,trivial,NW,λj v hv=> ?_,λ_ _=>trivial⟩;cases j with
   |zero=>
    simp[ay]at hv;subst hv;exact⟨_,0,rfl,hx5⟩
   |succ j=>simp[ay]at hv
 have hmx:=pT HE.o hc.m SN;have HMX:Hid (∀W,aa (au O) w2 W->jL O W):=Fh λW k=>hmx.kept k;have HN:Hid (∀k,w2.heap.size<=k->¬au O k):=Fh λk hk=>hc.m.Fu hk;have Gx:=Fh (And.intro FF SN);have hp:=yF hc5.has (hmx.kept hc5.mg.kept) ⟨#[65,46,98]⟩ (by decide) 1 (by decide) (λ_=>True) (some ⟨w2.heap.size+1+1,0,none⟩) 1 [[120]] hrec (by decide) (by decide) 5 (by decide) (([],0),y1) K1.o;have HP:=Fh hp;have Ni:=Fh hc5;have NT:=Fh y5;clear y3 y5 hc5 hx5 NW hrec hmx hp hc SN FF Na Jg;go_wp2_with fail;rw[<-IR];clear IR a0 a1 kc ka;refine HP.o.mono ?_;rintro e w6⟨vk,rfl,SO,Hm⟩;obtain⟨Ak,ck,rfl⟩:=aw SO;have UU:=Fh (Ni.o.on Hm);have HK6:=Fh (Hm.kept.whole NT.o (HN.o _ (Fm _)));have HG:=Fh (ot UU.o.has (HMX.o _ UU.o.mg.kept) ⟨#[97,46,66,46]⟩ (by decide) 1 (by decide) (([[120]],0),y2) K2.o);have b0:=HK6.o.cell 0;have b1:=HK6.o.cell 1;clear SO Hm;go_wp2_with fail;refine HG.o.mono ?_;rintro e w7⟨vl,us,rfl,GU,J1⟩;have UH:=Fh (UU.o.on J1);have HK7:=Fh (J1.kept.whole HK6.o (HN.o _ (Fm _)));obtain⟨Al,cl,rfl,_⟩:=GU.Mb;have HI7:=Fh GU;have HT:=Fh (pP UH.o.has 4 (by decide) [] y3 K3.o);have hsz6:=UU.o.mg.kept.size;clear GU J1 b0 b1;go_wp2_with fail;refine HT.o.mono ?_;rintro e w8⟨vk8,rfl,SO,Uo⟩;obtain⟨Ak8,ck8,rfl⟩:=aw SO;have HC8:=Fh (UH.o.on Uo);have Qm:=Fh (Uo.kept.whole HK7.o (HN.o _ (Fm _)));have HI8:=Fh (HI7.o.kept Uo.kept λk h1 _=>HN.o k (by omega));have Ow:=Fh (ot HC8.o.has (HMX.o _ HC8.o.mg.kept) ⟨#[65,46,98]⟩ (by decide) 1 (by decide) (([[120]],0),y4) K4.o);have b0:=Qm.o.cell 0;have b1:=Qm.o.cell 1;clear SO Uo;go_wp2_with fail;refine Ow.o.mono ?_;rintro e w9⟨v9,us9,rfl,hin9,UQ⟩;obtain⟨A9,c9,rfl,_⟩:=hin9.Mb;have HC9:=Fh (HC8.o.on UQ);have HK9:=Fh (UQ.kept.whole Qm.o (HN.o _ (Fm _)));have HI9:=Fh (HI8.o.kept UQ.kept λk h1 _=>HN.o k (by omega));have PI:=Fh (pP HC9.o.has 1 (by decide) [([[97],[98]],1)] y5 K5.o);have hsz9:=HC9.o.mg.kept.size;clear hin9 UQ b0 b1;go_wp2_with fail;refine PI.o.mono ?_;rintro e LV⟨vk10,rfl,UY,Ro⟩;obtain⟨Ak10,ck10,rfl⟩:=aw UY;have Z5:=Fh (HC9.o.on Ro);have T4:=Fh (Ro.kept.whole HK9.o (HN.o _ (Fm _)));have HI10:=Fh (HI9.o.kept Ro.kept λk h1 _=>HN.o k (by omega));have HO10:=Fh UY;have Re:=Fh (ot Z5.o.has (HMX.o _ Z5.o.mg.kept) ⟨#[65,46,98]⟩ (by decide) 1 (by decide) (([],7),y6) K6.o);have b0:=T4.o.cell 0;have b1:=T4.o.cell 1;clear UY Ro;go_wp2_with fail;refine Re.o.mono ?_;rintro e NU⟨v11,us11,rfl,Yu,UZ⟩;obtain⟨A11,Kr,rfl,_⟩:=Yu.Mb;have Z6:=Fh (Z5.o.on UZ);have Z7:=UZ.kept.whole T4.o (HN.o _ (Fm _));have hi11:=HI10.o.kept UZ.kept λk h1 _=>HN.o k (by omega);have ho11:=aj HO10.o UZ.kept λk e=>HN.o k (by have:=(aF HO10.o e).1;omega);obtain⟨ra,rc,UN,hrr⟩:=hi11.Mb;injection UN with U0 Rp U1;subst U0 U1;clear Rp
 obtain⟨b,off,Au,cu,rfl,_,Yj,Gh,_⟩:=hrr 0 [120] rfl;have hcv:=lH underlying73 underlying5 NU Au [120] cu Gh (λa ha=>by
  obtain⟨b,off,e,_⟩:=Gh 0 _ rfl;rw[ha]at e;obtain rfl:=Fk e;rfl) 9 underlying9
 have hcv':(convert 73 9 (.slice Au 1 cu)).run prog NU= .ok (.string ⟨#[120]⟩) NU:=hcv;have hcx':NU.cell? ⟨b,off,none⟩=some (.slice Au 1 cu):=Yj;obtain⟨g,rfl,_,_,XD⟩:=bC ho11 (by decide) (by decide);have g0:NU.cell? ⟨g,0,none⟩=some (.string ⟨#[97,46,98]⟩):=XD 0 _ rfl;have g1:NU.cell? ⟨g,1,none⟩=some (.int .u16 1):=XD 1 _ rfl;have b0':=Z7.cell 0;have b1':=Z7.cell 1;have HD:=Fh (yD Z6.o.has (HMX.o _ Z6.o.mg.kept) ⟨#[65,46,98]⟩ (by decide) 1 (by decide) (7,y7) K7.o);clear Yu UZ b0 b1 Z7 hi11 ho11 hrr hcv Yj Gh XD;go_wp2_with fail;refine HD.o.mono ?_;rintro e T5⟨rfl,hg12⟩;have Z8:=Fh (Z6.o.on hg12);have HCM:=Fh (oS Z8.o.has);have HMF:=Fh (gr Z8.o.has.m);clear hg12;go_wp2_with fail;refine HCM.o.mono ?_;rintro e RM⟨rfl,rfl⟩;go_wp2_with fail;refine HMF.o.mono ?_;rintro e Wt⟨rfl,Ux⟩;have HF:Hid (Below w.heap.size w Wt):=Fh ((((aa.below Gx.o.1 (au O)).trans Z8.o.mg.kept).trans (aa.below Ux (au O))).F1 (Fm _) λk hk=>kr Gx.o.2 hk);clear Ux;go_wp2;go_ret;exact⟨rfl,HF.o⟩
def si(n:Nat):Int:=if n=18446744073709551615 then-1 else((n%1000:Nat):Int)
theorem AI(n:Nat)(w:World)(hn:n<18446744073709551616):Calls prog 20 #[.int .u64 (n:Int)] w λe w'=>e= .returned (.int .i64 (si n))/\w'=w:=by
 unfold si;by_cases h:n=18446744073709551615
 ·subst h;rw[if_pos rfl];go_in;go_wp2;go_ret;exact⟨rfl,rfl⟩
 ·rw[if_neg h];have z:¬((n:Int)=18446744073709551615):=by omega
  have r1:Int.tmod (n:Int) 1000=((n%1000:Nat):Int):=by
   rw[Int.tmod_eq_emod_of_nonneg (by omega)];omega
  have w1:IntKind.i64.wrap ((n%1000:Nat):Int)=((n%1000:Nat):Int):=by rw[IntKind.wrap_i64];omega
  have w2:IntKind.u64.wrap ((n%1000:Nat):Int)=((n%1000:Nat):Int):=by rw[IntKind.wrap_u64];omega
  obtain⟨m,hm⟩:=Fp (n%1000);rw[<-hm]at r1 w1 w2⊢;clear h hm;go_in;go_wp2;go_ret;exact⟨rfl,rfl⟩
theorem vD(n:Nat)(w:World)(hn:n<1000000):Calls prog 9 #[.int .i64 (n:Int)] w λe w'=>e= .returned (.agg #[.int .i64 (n:Int),.int .i64 ((32*n:Nat):Int)])/\Below w.heap.size w w':=by
 have w1:IntKind.i64.wrap (32*(n:Int))=((32*n:Nat):Int):=by rw[IntKind.wrap_i64];omega
 obtain⟨m,hm⟩:=Fp (32*n);rw[<-hm]at w1⊢;clear hm;obtain⟨w2,FL⟩:=Fp (w.alloc (.cells #[.int .i64 0,.int .i64 0] 31));have hr:Whole w2 w.heap.size 31 #[.int .i64 0,.int .i64 0]:=by rw[FL];exact Whole.new _ _ _
 have hb:Below w.heap.size w w2:=by rw[FL];exact(Below.refl _ _).alloc (Fm _) _
 have x0:=hr.cell 0;have x1:=hr.cell 1;have f0:=hr.frozen 0;have f1:=hr.frozen 1;have HR:=Fh hr;have HB:=Fh hb;clear hr hb;go_in;go_upto_region 1 with fail;rw[<-FL];clear FL;go_wp2_with fail;refine bodyPost_ret (results_cell_row rfl _ _ w.heap.size 31 _ (0,0) _ rfl (bY HR.o _ _) underlying31 rfl (by kernel_rfl)) rfl ?_;have k2:aa (λk=>k=w.heap.size) w2 ((w2.setCell ⟨w.heap.size,0,none⟩ (.int .i64 (n:Int))).setCell ⟨w.heap.size,1,none⟩ (.int .i64 (m:Int))):=((aa.refl (λk=>k=w.heap.size) w2).setCell (p:=⟨w.heap.size,0,none⟩) (.inl rfl) _).setCell (p:=⟨w.heap.size,1,none⟩) (.inl rfl) _;exact⟨rfl,((aa.below HB.o (λk=>k=w.heap.size)).trans k2).F1 (Fm _) λk hk e=>by omega⟩
end Go.Proofs.YtifkphcaelafjaaGreatDoor
