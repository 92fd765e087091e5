/-
  Lemmas on the way to the row. No condition beyond their own.
-/
import Derived.Test.YtifkphcaelafjaaGreatDoorQ09
set_option maxHeartbeats 25600000
set_option maxRecDepth 100000
set_option linter.unusedVariables false
set_option linter.unusedSimpArgs false
namespace Go.Proofs.YtifkphcaelafjaaGreatDoor
open Tryz
open Go.RowKit Go.Colm Go.FC Go.Maps Go.FP Go.Fy Go.Fz
theorem gK.Mh{w W:World}{u:Value}{l:List UInt8}(h:gK w u l)(hk:∀(k i:Nat) v,u.ownBlock=some k->w.cell? ⟨k,i,none⟩=some v->W.cell? ⟨k,i,none⟩=some v):YY W u l:=by
 obtain⟨g,o,c,rfl,Lm,hc⟩:=h;exact⟨⟨g,o,none⟩,c,rfl,λi x hx=>by rw[Addr.add_lit];exact hk g (o+i) _ rfl (hc i x hx)⟩
theorem Ad{n:Nat}(h:n<=480):(bD n).1<256:=by
 have:∀n,n<481->(bD n).1<256:=by decide+kernel
 exact this n (by omega)
theorem jH{b:List UInt8}(h:(aP b).2=0):2<=b.length/\b.length<=480:=by
 obtain⟨n,l,_,b1,_,_,_,_,b6,_⟩:=ml (iK h).1;exact⟨b1,b6⟩
theorem bW.base{B B':Nat}{w:World}{v:Value}{us:List Value}{l:List (List UInt8)}(h:bW B w v us l)(hB:B'<=B):bW B' w v us l:=⟨h.1,aS h.2.1 hB,λi u x h1 h2=>aS (h.2.2 i u x h1 h2) hB⟩
section
variable{O:av}{μ:Mm}{w:World}
theorem Ce(h:ao O μ w)(a name typ en:Nat)(p:List UInt8)(u:Value)(μ':Mm)(ha:a<4294967000)(hn:name<4294967296)(ht:typ<65536)(he:en<18446744073709551616)(hb:gK w u p)(ho:∀k,u.ownBlock=some k->¬au O k)(hv:kX a name typ en p μ=some μ'):Calls prog 100 #[.pointer (some ⟨O.mb,0,none⟩),.int .i64 (a:Int),.int .i64 (name:Int),.int .u16 (typ:Int),.int .u64 (en:Int),u] w λe w'=>e= .returned (.int .i64 0)/\MG O w μ' w':=by
 unfold kX at hv;by_cases hu:(aP p).2=0
 case neg=>rw[if_pos hu]at hv;cases hv
 rw[if_neg (λe=>e hu)]at hv;obtain⟨_,h1,F6⟩:=Fi hv;obtain⟨_,h2,F0⟩:=Fi F6;obtain⟨r,h3,GM⟩:=Fi F0;by_cases hr:r=0
 case neg=>rw[if_pos hr]at GM;cases GM
 rw[if_neg (λe=>e hr)]at GM;subst hr;obtain⟨hh,h4,JF⟩:=Fi GM;obtain⟨m1,h5,Lk⟩:=Fi JF;obtain⟨m2,h6,NG⟩:=Fi Lk;obtain⟨m3,h7,h8⟩:=Fi NG;obtain⟨Iu,N0⟩:=jH hu;have XJ:=rL h4;have IY:=Ad N0;have HC:=Fh (aD h);have FE:=Fh (MG.refl h);have Pa:=Fh (λW (hg:MG O w μ W) (hb:gK W u p)=>m8 p u W hb hu);have LH:=Fh (λW (hg:MG O w μ W)=>qM p.length W hg.has.env.Hk (by omega));have HNA:=Fh (λW (hg:MG O w μ W)=>rM hg.has name hn h1);have Wa:=Fh (λW (hg:MG O w μ W)=>zX hg.has a (bD p.length).1 (by omega) h2);have Qt:=λW (hg:MG O w μ W)=>uT hg.has name typ 0 hn ht h3;simp only [show decide ((0:Nat)≠0)=false from rfl,show((0:Nat):Int)=0 from rfl]at Qt;have Lf:=Fh Qt;have Sr:=Fh (λW (hg:MG O w μ W)=>uS hg.has name typ hh hn ht h4);obtain⟨c,hc⟩:=Fp ((bD p.length).1);rw[<-hc]at h5 IY Wa LH;have Mn:=λW (hg:MG O w μ W)=>oh hg.has a {tag:=1,Ft:=c,name:=name,FB:=en,typ:=typ,size:=p.length,hash:=hh} m1 (by omega) ⟨(show(1:Nat)<256 by decide),(show c<256 by omega),(show(0:Nat)<256 by decide),(show(0:Nat)<256 by decide),hn,(show(0:Nat)<4294967296 by decide),(show(0:Nat)<4294967296 by decide),he,ht,(show p.length<65536 by omega),XJ,(show(0:Nat)<4294967296 by decide)⟩ (Nat.zero_le 1) h5;change∀W,MG O w μ W->Calls prog 171 #[.pointer (some ⟨O.mb,0,none⟩),.int .i64 (a:Int),.agg #[.int .i64 1,.int .i64 (c:Int),.bool false,.int .i64 0,.int .u32 (name:Int),.int .u32 0,.int .u32 0,.int .u32 0,.int .u64 (en:Int),.int .u16 (typ:Int),.int .i64 (p.length:Int),.int .u32 (hh:Int)]] W _ at Mn;have XW:=Fh Mn;have RI:=λ(W:World) (hg:MG O w m1 W)=>mR hg.has (a+32) 5 p u m2 (λW2 Gg=>hb.Mh λk i v hk hv=>(hg.trans Gg).kept.cell hv (ho k hk)) h6;simp only [show((a+32:Nat):Int)=(a:Int)+32 by omega]at RI;have X9:=Fh RI;have Wc:=Fh (λW (FF:Below w.heap.size w W)=>hb.below FF);have Ya:=Fh (λW (hg:MG O w m2 W)=>yi hg.has a m3 (by omega) h7);have HRI:=Fh (λW (hg:MG O w m3 W)=>DA hg.has a μ' (by omega) h8);have r1:IntKind.u32.wrap (name:Int)=(name:Int):=by rw[IntKind.wrap_u32];omega
 have r2:IntKind.i64.wrap ((a:Int)+32)=(a:Int)+32:=by rw[IntKind.wrap_i64];omega
 have G5:=h.cf;have z:¬((μ.Fq:Int)=0):=by omega
 have zz:¬(μ.Fq=0):=by omega
 obtain⟨g,o,cc,rfl,Lm,-⟩:=hb;obtain⟨n,hpn⟩:=Fp p.length;rw[<-hpn]at XW X9 LH Pa Wc⊢;clear h hv h1 h2 h3 h4 h5 h6 h7 h8 F6 F0 GM JF Lk NG Qt Mn RI hc hu G5 hpn Lm Iu N0;go_in;go_wp2_with fail;refine HC.o.mono ?_;rintro e w1⟨rfl,FN⟩;have FA:=Fh (FE.o.below FN);have GH:=Fh FN;clear FN;go_wp2_with fail;refine(Pa.o _ FA.o (Wc.o _ GH.o)).mono ?_;rintro e w2⟨v2,us2,rfl,-,FF⟩;have FK:=Fh (FA.o.below FF);clear FF;go_wp2_with fail;refine(LH.o _ FK.o).mono ?_;rintro e w3⟨rfl,rfl⟩;go_wp2_with fail;refine(HNA.o _ FK.o).mono ?_;rintro e w4⟨rfl,hg⟩;have FW:=Fh (FK.o.trans hg);clear hg;go_wp2_with fail;refine(Wa.o _ FW.o).mono ?_;rintro e w5⟨rfl,hg⟩;have Gj:=Fh (FW.o.trans hg);clear hg;go_wp2_with fail;refine(Lf.o _ Gj.o).mono ?_;rintro e w6⟨rfl,hg⟩;have GP:=Fh (Gj.o.trans hg);clear hg;go_wp2_with fail;refine(Sr.o _ GP.o).mono ?_;rintro e w7⟨rfl,hg⟩;have Iv:=Fh (GP.o.trans hg);clear hg;go_wp2_with fail;refine(XW.o _ Iv.o).mono ?_;rintro e w8⟨rfl,hg⟩;have Ow:=Fh (Iv.o.trans hg);clear hg;go_wp2_with fail;refine(X9.o _ Ow.o).mono ?_;rintro e w9⟨rfl,hg⟩;have HG9:=Fh (Ow.o.trans hg);clear hg;go_wp2_with fail;refine(Ya.o _ HG9.o).mono ?_;rintro e LV⟨rfl,hg⟩;have Re:=Fh (HG9.o.trans hg);clear hg;go_wp2_with fail;refine(HRI.o _ Re.o).mono ?_;rintro e NU⟨rfl,hg⟩;have Zp:=Fh (Re.o.trans hg);clear hg;go_wp2;go_ret;exact⟨rfl,Zp.o⟩
theorem nf{a n k:Nat}{l:List UInt8}(h:dC a n k μ=some l):l.length=n:=by
 obtain⟨_,_,_,rfl⟩:=fR h;simp[Mm.bytes]
theorem uX(h:ao O μ w)(a:Nat)(b:Bk)(p:List UInt8)(ha:a<4294967000)(hb:eD 1 a μ=some b)(hp:dC (a+32) b.size 5 μ=some p)(hu:(aP p).2=0):Calls prog 59 #[.pointer (some ⟨O.mb,0,none⟩),.int .i64 (a:Int)] w λe w'=>∃v us,e= .returned (.tuple #[v,.int .i64 0])/\bW w.heap.size w' v us (aP p).1/\MG O w μ w':=by
 obtain⟨Iu,N0⟩:=jH hu;have KC:p.length=b.size:=nf hp;have FE:=Fh (MG.refl h);have Gn:=Fh (λW (hg:MG O w μ W)=>ko hg.has a b (by omega) hb);have ZA:=Fh (λW (hg:MG O w μ W)=>pj hg.has a b p (by omega) hp);have Pa:=Fh (λW u (hb:gK W u p)=>m8 p u W hb hu);have VR:=Fh KC;have TX:=Fh Iu;clear h hb hp hu KC Iu N0;unfold JV at Gn ZA;go_in;go_wp2_with fail;refine(Gn.o _ FE.o).mono ?_;rintro e w1⟨rfl,Gz⟩;have FA:=Fh (FE.o.trans Gz);clear Gz;go_wp2_with fail;refine(ZA.o _ (FA.o.alloc _)).mono ?_;rintro e w2⟨u,rfl,Pd,Gg⟩;rw[<-VR.o]at Pd;have HU2:=Fh (gK.own Pd (by have:=TX.o;omega));have FK:=Fh ((FA.o.alloc _).trans Gg);clear Gg Pd;go_wp2_with fail;refine(Pa.o _ _ HU2.o).mono ?_;rintro e w3⟨v,us,rfl,Jq,Gf⟩;have FT:=Fh (FK.o.below Gf);have F8:=FK.o.kept.size;have Nc:=Fh Jq;have IA:=Fh F8;clear Gf Jq F8;go_wp2;go_ret2;exact⟨v,us,rfl,Nc.o.base IA.o,FT.o⟩
end
section
variable{O:av}{μ:Mm}{w:World}
theorem pq(h:ao O μ w)(n:Nat)(hv:μ.root 16=some n):Calls prog 48 #[.pointer (some ⟨O.mb,0,none⟩)] w λe w'=>e= .returned (.int .u64 (n:Int))/\MG O w μ w':=by
 have HL:=Fh (gj h 16 n (by omega) hv);have FE:=Fh (MG.refl h);clear h hv;go_in;go_wp2_with fail;refine HL.o.mono ?_;rintro e w1⟨rfl,hg⟩;have FA:=Fh (FE.o.trans hg);clear hg;go_wp2;go_ret;exact⟨rfl,FA.o⟩
theorem uY{n:Nat}(h:μ.root 16=some n):n<18446744073709551616:=oO h
theorem tj{f v:Nat}{μ':Mm}(h:μ.FG f v=some μ'):∃r,μ'.root f=some r:=by
 obtain⟨h1,_,rfl⟩:=eY h;exact⟨_,if_pos h1⟩
theorem Cf(a b m:Nat):FC.fe a b m=fe a b m:=rfl
theorem DL(h:ao O μ w)(n:Nat)(μ':Mm)(hn:n<18446744073709551616)(hv:Bc n μ=some μ'):Calls prog 55 #[.pointer (some ⟨O.mb,0,none⟩),.int .u64 (n:Int)] w λe w'=>(∃x:Int,e= .returned (.int .u64 x))/\MG O w μ' w':=by
 obtain⟨a,h1,h2⟩:=Fi hv;rw[Cf]at h2;obtain⟨r,h3⟩:=tj h2;have ha:=uY h1;have hl:fe a n 4611686018427387904<18446744073709551616:=by unfold fe;omega
 have HL:=Fh (pq h a h1);obtain⟨x,hx⟩:=Fp (fe a n 4611686018427387904);have Tw:=λW=>yu a n 4611686018427387904 W ha hn (by decide);rw[<-hx]at h2;simp only [<-hx]at Tw;have HSU:=Fh Tw;have HS:=Fh (λW (hg:MG O w μ W)=>bf hg.has 16 x μ' (by omega) h2);have HN:=Fh (λW (hg:MG O w μ' W)=>pq hg.has r h3);have FE:=Fh (MG.refl h);clear h hv h1 h2 h3 Tw hx hl;go_in;go_wp2_with fail;refine HL.o.mono ?_;rintro e w1⟨rfl,hg⟩;have FA:=Fh (FE.o.trans hg);clear hg;go_wp2_with fail;refine(HSU.o _).mono ?_;rintro e w2⟨rfl,hb⟩;have FK:=Fh (FA.o.below hb);clear hb;go_wp2_with fail;refine(HS.o _ FK.o).mono ?_;rintro e w3⟨rfl,hg⟩;have FT:=Fh (FK.o.trans hg);clear hg;go_wp2_with fail;refine(HN.o _ FT.o).mono ?_;rintro e w4⟨rfl,hg⟩;have FW:=Fh (FT.o.trans hg);clear hg;go_wp2;go_ret;exact⟨⟨_,rfl⟩,FW.o⟩
end
structure CG(cb bk:Nat)(O:av)(d:Nat)(w:World)(μ:Mm)(W:World):Prop where
 mg:MG O w μ W
 c:Whole W cb 94 #[.pointer (some ⟨O.mb,0,none⟩),.pointer (some ⟨bk,0,none⟩)]
 b:∃Ga:Int,Whole W bk 207 #[.int .i64 (d:Int),.int .i64 Ga]
 n0:¬au O cb
 n1:¬au O bk
section
variable{O:av}{μ:Mm}{w W:World}{cb bk d:Nat}
theorem ao.QT{W:World}(h:ao O μ W){pb:Nat}{T:TypeId}{cs:Array Value}(hp:Whole W pb T cs)(h2:T≠267)(h4:T≠5):¬au O pb:=by
 rintro(e|e|e)
 ·obtain⟨n,hn⟩:=h.wt;exact aE hp hn h2 e
 ·obtain⟨c,hc,_⟩:=h.JP;exact aE hp hc h4 e
 ·obtain⟨c,hc,_⟩:=h.ki;exact aE hp hc h4 e
theorem CG.of(h:dt cb bk O μ d w):CG cb bk O d w μ w:=⟨MG.refl h.m,h.c,h.b,h.m.QT h.c (by decide) (by decide),by obtain⟨m,hm⟩:=h.b;exact h.m.QT hm (by decide) (by decide)⟩
theorem CG.has(h:CG cb bk O d w μ W):dt cb bk O μ d W:=⟨h.c,h.b,h.mg.has⟩
theorem CG.on{μ':Mm}{W2:World}(h:CG cb bk O d w μ W)(k:MG O W μ' W2):CG cb bk O d w μ' W2:=⟨h.mg.trans k,k.kept.whole h.c h.n0,by obtain⟨m,hm⟩:=h.b;exact⟨m,k.kept.whole hm h.n1⟩,h.n0,h.n1⟩
theorem CG.below{W2:World}(h:CG cb bk O d w μ W)(k:Below W.heap.size W W2):CG cb bk O d w μ W2:=h.on ((MG.refl h.mg.has).below k)
theorem CG.drew(h:CG cb bk O d w μ W):CG cb bk O d w μ W.drew:=h.below (Below.refl _ W).drew
theorem CG.held(h:CG cb bk O d w μ W):aa (au O) w W/\W.cell? ⟨cb,0,none⟩=some (.pointer (some ⟨O.mb,0,none⟩))/\W.cell? ⟨cb,1,none⟩=some (.pointer (some ⟨bk,0,none⟩)):=⟨h.mg.kept,h.c.cell 0,h.c.cell 1⟩
theorem rP(n e:Nat):bM n e=decide (e≠0/\e<=n):=by
 unfold bM;by_cases h:e=0
 ·subst h;simp
 ·have h1:Nat.beq e 0=false:=by
   cases e with
   |zero=>exact absurd rfl h
   |succ e=>rfl
  rw[h1];by_cases h2:e<=n
  ·have h3:Nat.ble e n=true:=Nat.ble_eq_true_of_le h2;rw[h3];simp[h,h2]
  ·have h3:Nat.ble e n=false:=by
    cases h4:Nat.ble e n
    ·rfl
    ·exact absurd (Nat.le_of_ble_eq_true h4) h2
   rw[h3];simp[h2]
theorem uZ(h:dt cb bk O μ d w)(a:Nat)(o:Bool)(ha:a<4294967296)(hv:kM a μ=some o):Calls prog 94 #[.pointer (some ⟨cb,0,none⟩),.int .i64 (a:Int)] w λe w'=>e= .returned (.bool o)/\MG O w μ w':=by
 obtain⟨n,h1,F6⟩:=Fi hv;obtain⟨e,h2,h3⟩:=Fi F6;have h4:=Fk h3;rw[rP]at h4;have KR:=Fh (λW (hg:CG cb bk O d w μ W)=>(pq hg.mg.has n h1).mono λe w' hq=>(⟨hq.1,hg.on hq.2⟩:e= .returned (.int .u64 (n:Int))/\CG cb bk O d w μ w'));have LH:=Fh (λW (hg:CG cb bk O d w μ W)=>(yp hg.mg.has a e ha h2).mono λe' w' hq=>(⟨hq.1,hg.on hq.2⟩:e'= .returned (.int .u64 (e:Int))/\CG cb bk O d w μ w'));have hov:=λW (hg:CG cb bk O d w μ W)=>(uW n e W).mono λe' w' hq=>(⟨by rw[hq.1,h4],by rw[hq.2];exact hg⟩:e'= .returned (.bool o)/\CG cb bk O d w μ w');have RX:=Fh hov;have Gu:CG cb bk O d w μ w.drew:=(CG.of h).drew;have QO:=Fh (CG.of h);obtain⟨_,x0,x1⟩:=(CG.of h).held;clear h hv F6 h1 h2 h3 h4 hov;go_in;go_upto_region 1 with fail
 go_region_held3 (λw'=>aa (au O) w w'/\w'.cell? ⟨cb,0,none⟩=some (.pointer (some ⟨O.mb,0,none⟩))/\w'.cell? ⟨cb,1,none⟩=some (.pointer (some ⟨bk,0,none⟩)))
  (first|assumption|exact CG.held (by assumption))
  (first
   |((go_at_call 48;refine(KR.o _ (by assumption)).mono ?_);rintro e w3 ⟨rfl,Il⟩)
   |((go_at_call 162;refine(LH.o _ (by assumption)).mono ?_);rintro e w4 ⟨rfl,Nf⟩)
   |((go_at_call 161;refine(RX.o _ (by assumption)).mono ?_);rintro e w5 ⟨rfl,Ik⟩))
 have Ni:=Fh Ik;clear Gu;go_wp2;go_ret;exact⟨rfl,Ni.o.mg⟩
theorem Ae{ls:List (List UInt8)}{q:Nat×Nat}(h:kV ls μ=some q):q.1<4294967296:=(Ll (show dW μ ls.reverse 0 0=some q from h) (by decide)).1
theorem nh{ls:List (List UInt8)}{typ r:Nat}(h:mN ls typ μ=some r):r<4294967296:=by
 obtain⟨q,h1,h2⟩:=Fi h;by_cases hq:q.2<ls.length
 ·rw[if_pos hq]at h2;obtain rfl:=Fk h2;decide
 ·rw[if_neg hq]at h2;obtain⟨_,h3,h4⟩:=Fi h2;obtain⟨_,h5,h6⟩:=Fi h4;exact rJ h6
theorem rQ(h:dt cb bk O μ d w)(A:Option Addr)(c:Nat)(ls:List (List UInt8))(typ r:Nat)(hr:iZ O w A ls)(hl:ls.length<=100000)(hs:∀s∈ls,s.length<=100000)(ht:typ<65536)(hv:mN ls typ μ=some r):
  Calls prog 43 #[.pointer (some ⟨cb,0,none⟩),.slice A ls.length c,.int .u16 (typ:Int)] w λe w'=>e= .returned (.int .i64 (r:Int))/\MG O w μ w':=by
 obtain⟨q,h1,h2⟩:=Fi hv;obtain⟨a0,n0⟩:=q;dsimp only at h2;have G6:a0<4294967296:=Ae h1;have VE:=Fh (B6 h.m A c ls a0 n0 hr hl hs h1);have VH:=Fh (CG.of h);obtain⟨_,x0,x1⟩:=(CG.of h).held;by_cases hq:n0<ls.length
 ·rw[if_pos hq]at h2;obtain rfl:=Fk h2;rw[if_pos hq,decide_eq_false (λe=>e hq)]at VE;clear h hr hl hs hv h1 h2 hq G6;go_in;go_wp2_with fail;refine VE.o.mono ?_;rintro e w1⟨rfl,hg⟩;have JS:=Fh (VH.o.on hg);clear hg x0 x1;go_wp2;go_ret;exact⟨rfl,JS.o.mg⟩
 ·rw[if_neg hq]at h2;rw[if_neg hq,decide_eq_true hq]at VE;have HEF:=Fh (λW (hg:CG cb bk O d w μ W)=>uT hg.mg.has a0 typ r G6 ht h2);obtain⟨b,hb⟩:=Fp (decide (r≠0));rw[<-hb]at HEF;clear h hr hl hs hv h1 h2 hq G6 hb;go_in;go_wp2_with fail;refine VE.o.mono ?_;rintro e w1⟨rfl,hg⟩;have JS:=Fh (VH.o.on hg);clear hg x0 x1;obtain⟨_,x0,x1⟩:=JS.o.held;go_wp2_with fail;refine(HEF.o _ JS.o).mono ?_;rintro e w2⟨rfl,hg⟩;have Mj:=Fh (JS.o.on hg);clear hg x0 x1;go_wp2;go_ret;exact⟨rfl,Mj.o.mg⟩
theorem rR(h:dt cb bk O μ d w)(a:Nat)(μ':Mm)(ha:a<4294967296)(hv:qY a μ=some μ'):Calls prog 44 #[.pointer (some ⟨cb,0,none⟩),.int .i64 (a:Int)] w λe w'=>e= .returned (.tuple #[])/\MG O w μ' w':=by
 obtain⟨o,h1,F6⟩:=Fi hv;obtain⟨m1,h2,h3⟩:=Fi F6;have RX:=Fh (uZ h a o ha h1);have ZB:=Fh (λW (hg:CG cb bk O d w m1 W)=>tg hg.mg.has a μ' ha h3);have VH:=Fh (CG.of h);obtain⟨_,x0,x1⟩:=(CG.of h).held;cases o with
 |false=>
  obtain rfl:μ=m1:=Fk h2;clear h hv F6 h1 h2 h3;go_in;go_wp2_with fail;refine RX.o.mono ?_;rintro e w1⟨rfl,hg⟩;have JS:=Fh (VH.o.on hg);clear hg x0 x1;obtain⟨_,x0,x1⟩:=JS.o.held;go_wp2_with fail;refine(ZB.o _ JS.o).mono ?_;rintro e w2⟨⟨_,rfl⟩,hg⟩;have Mj:=Fh (JS.o.on hg);clear hg x0 x1;go_wp2;go_end0;exact⟨rfl,Mj.o.mg⟩
 |true=>
  obtain⟨n,h4,h5⟩:=Fi (show bK 19 μ=some m1 from h2);have hn:=aU h4 (by omega);have Qq:=Fh (λW (hg:CG cb bk O d w μ W)=>(gj hg.mg.has 19 n (by omega) h4).mono λe w' hq=>(⟨hq.1,hg.on hq.2⟩:e= .returned (.int .u64 (n:Int))/\CG cb bk O d w μ w'));have Ye:=λW (hg:CG cb bk O d w μ W)=>(bf hg.mg.has 19 (n+1) m1 (by omega) h5).mono λe w' hq=>(⟨hq.1,hg.on hq.2⟩:e= .returned (.bool true)/\CG cb bk O d w m1 w');simp only [show((n+1:Nat):Int)=(n:Int)+1 from rfl]at Ye;have HSR:=Fh Ye;have r1:IntKind.u64.wrap ((n:Int)+1)=(n:Int)+1:=by rw[IntKind.wrap_u64];omega
  clear h hv F6 h1 h2 h3 h4 h5 Ye;go_in;go_wp2_with fail;refine RX.o.mono ?_;rintro e w1⟨rfl,hg⟩;have JS:=Fh (VH.o.on hg);clear hg x0 x1;obtain⟨_,x0,x1⟩:=JS.o.held;have Gu:=JS.o.drew;go_upto_region 1 with fail
  go_region_held3 (λw'=>aa (au O) w w'/\w'.cell? ⟨cb,0,none⟩=some (.pointer (some ⟨O.mb,0,none⟩))/\w'.cell? ⟨cb,1,none⟩=some (.pointer (some ⟨bk,0,none⟩)))
   (first|assumption|exact CG.held (by assumption))
   (first
    |((go_at_call 95;refine(Qq.o _ (by assumption)).mono ?_);rintro e w3 ⟨rfl,Il⟩)
    |((go_at_call 73;refine(HSR.o _ (by assumption)).mono ?_);rintro e w4 ⟨rfl,Nf⟩))
  have L8:=Fh Nf;clear Gu Nf Il x0 x1;obtain⟨_,x0,x1⟩:=L8.o.held;go_wp2_with fail;refine(ZB.o _ L8.o).mono ?_;rintro e w2⟨⟨_,rfl⟩,hg⟩;have Ni:=Fh (L8.o.on hg);clear hg x0 x1;go_wp2;go_end0;exact⟨rfl,Ni.o.mg⟩
end
section
variable{O:av}{μ:Mm}{w:World}
theorem Cg(h:ao O μ w)(a c:Nat)(ha:a<4294967296)(hv:fG a c μ=some ()):Calls prog 214 #[.pointer (some ⟨O.mb,0,none⟩),.int .i64 (a:Int),.int .i64 (c:Int)] w λe w'=>e= .returned (.bool true)/\MG O w μ w':=by
 obtain⟨s,x,h1,FF,h2,hx,h3⟩:=eJ hv;obtain⟨b,rfl⟩:∃b,b=a:=⟨a,rfl⟩;subst hx;have II:=Fh (kh h b s b h1);have Le:=λW (hg:MG O w μ W)=>j6 hg.has b 4 (by omega) (by omega) (by omega);simp only [FF]at Le;have We:=Fh Le;have Gw:=λW (hg:MG O w μ W)=>gx hg.has s x h2;unfold LF at Gw;have Gn:=Fh Gw;have O4:=Fh (λW (hg:MG O w μ W)=>dA hg.has b 4 5 0 h3);have FE:=Fh (MG.refl h);clear h hv h1 h2 h3 Le Gw FF;go_in;go_wp2_with fail;refine II.o.mono ?_;rintro e w1⟨rfl,hg⟩;have FA:=Fh (FE.o.trans hg);clear hg;go_wp2_with fail;refine(We.o _ FA.o).mono ?_;rintro e w2⟨rfl,rfl⟩;go_wp2_with fail;refine(Gn.o _ FA.o).mono ?_;rintro e w3⟨rfl,hg⟩;have FT:=Fh (FA.o.trans hg);clear hg;obtain⟨w4,Hn⟩:=Fp (w3.alloc (.cells #[.int .i64 (x.Ft:Int),.int .i64 (x.live:Int),.int .u32 (x.free:Int),.int .i64 (x.next:Int),.int .i64 (x.prev:Int)] 176));have LK:Whole w4 w3.heap.size 176 #[.int .i64 (x.Ft:Int),.int .i64 (x.live:Int),.int .u32 (x.free:Int),.int .i64 (x.next:Int),.int .i64 (x.prev:Int)]:=by rw[Hn];exact Whole.new _ _ _
 have FW:Hid (MG O w μ w4):=Fh (by rw[Hn];exact FT.o.alloc _);obtain⟨x0,x1,x2,x3,x4⟩:=bt LK;clear LK;go_upto_region 5 with fail;rw[<-Hn];clear Hn;go_wp2_with fail;refine(O4.o _ FW.o).mono ?_;rintro e w5⟨rfl,hg⟩;have Gj:=Fh (FW.o.trans hg);clear hg;go_wp2;go_ret;exact⟨rfl,Gj.o⟩
theorem yv(h:ao O μ w)(a:Nat)(b:Bk)(er:Nat)(ha:a<4294967296)(hv:da a μ=some (b,er)):Calls prog 213 #[.pointer (some ⟨O.mb,0,none⟩),.int .i64 (a:Int)] w λe w'=>e= .returned (.tuple #[.agg (JV O.mb a b),.bool (decide (er=0/\b.tag≠0))])/\MG O w μ w':=by
 obtain⟨w0,Fx⟩:=Fp (w.alloc (.cells #[.int .i64 0,.int .i64 0,.bool false,.int .i64 0,.int .u32 0,.int .u32 0,.int .u32 0,.int .u32 0,.int .u64 0,.int .u16 0,.int .i64 0,.int .u32 0,.pointer none,.int .i64 0] 259));have GK:MG O w μ w0:=by rw[Fx];exact(MG.refl h).alloc _
 have Gd:Whole w0 w.heap.size 259 #[.int .i64 0,.int .i64 0,.bool false,.int .i64 0,.int .u32 0,.int .u32 0,.int .u32 0,.int .u32 0,.int .u64 0,.int .u16 0,.int .i64 0,.int .u32 0,.pointer none,.int .i64 0]:=by rw[Fx];exact Whole.new w _ _
 have Gn:=Fh (gy GK.has a b er ha hv);have FE:=Fh GK;have Jd:=Fh Gd;have HH:=Fh h;obtain⟨q,hq⟩:=Fp (decide (er=0/\b.tag≠0));rw[<-hq];have HQ:=Fh hq;clear h GK Gd hv hq;go_in;go_upto_region 1 with fail;rw[<-Fx];clear Fx;go_wp2_with fail;refine Gn.o.mono ?_;rintro e w1⟨rfl,hg⟩;have Gp:=hg.kept.whole Jd.o (HH.o.Fu (Fm _));have Gz:=FE.o.trans hg;obtain⟨w2,FL⟩:=Fp (w1.alloc (.cells (G0 b) 165));have FF:Below w1.heap.size w1 w2:=by rw[FL];exact(Below.refl _ _).alloc (Fm _) _
 have Gc:=(FF.block _ Gp.lt).trans Gp;change Whole w2 w.heap.size _ _ at Gc;have IU:Whole w2 w1.heap.size 165 (G0 b):=by rw[FL];exact Whole.new _ _ _
 have FK:=Fh (Gz.below FF);have KO:=Fh Gc;obtain⟨sb,Jf⟩:=Fp w1.heap.size;rw[<-Jf]at IU;have hne:sb≠w.heap.size:=by have:=Gp.lt;omega
 obtain⟨x0,x1,x2,x3,x4,x5,x6,x7,x8,x9,IQ,I2⟩:=aZ IU;obtain⟨z0,z1,z2,z3,z4,z5,z6,z7,z8,z9,XF,XG,z12,z13⟩:=mj Gc;obtain⟨f0,f1,f2,f3,f4,f5,f6,f7,f8,f9,f10,f11,f12,f13⟩:=uR Gc;clear hg Gp Gz FF Gc IU FE Jd;unfold G0 at FL⊢;go_upto_region 2 with fail;rw[<-FL,<-Jf];clear FL Jf;by_cases he:er=0
 ·subst he;have c1:((b.tag:Int) !=0)=q:=by rw[HQ.o,Bool.eq_iff_iff];simp
  go_region
  all_goals
   go_wp2_with fail;refine bodyPost_ret (aB rfl _ _ w.heap.size 259 _ (0,0) _ rfl (fS (tf KO.o _ _ _ _ _ _ _ _ _ _ _ _ _ _)) underlying259 rfl (by kernel_rfl)) rfl ?_;exact⟨rfl,(MG.beside HH.o FK.o (wW _ _ _ _ _ _ _ _ _ _ _ _ _ _ _ _) λk e=>by rw[e];exact Fm _).drew⟩
 ·have c0:((er:Int)==0)=false:=by rw[Fo];omega
  have c1:q=false:=by rw[HQ.o];simp[he]
  subst c1
  go_region
  all_goals
   go_wp2_with fail;refine bodyPost_ret (aB rfl _ _ w.heap.size 259 _ (0,0) _ rfl (fS (tf KO.o _ _ _ _ _ _ _ _ _ _ _ _ _ _)) underlying259 rfl (by kernel_rfl)) rfl ?_;exact⟨rfl,(MG.beside HH.o FK.o (wW _ _ _ _ _ _ _ _ _ _ _ _ _ _ _ _) λk e=>by rw[e];exact Fm _).drew⟩
end
section
variable{O:av}{μ:Mm}{w:World}
theorem yw(h:ao O μ w)(x f v b1 b2:Nat)(μ':Mm)(c1:w.cell? ⟨b1,0,none⟩=some (.pointer (some ⟨O.mb,0,none⟩)))(c2:w.cell? ⟨b2,0,none⟩=some (.int .i64 (v:Int)))(hx:x<4294967296)(hf:f<12)(h4:v<4294967296)(hv:bE x f v μ=some μ'):
  Calls prog 298 #[.int .i64 (x:Int),.int .i64 (f:Int),.pointer (some ⟨b1,0,none⟩),.pointer (some ⟨b2,0,none⟩)] w λe w'=>e= .returned (.tuple #[])/\MG O w μ' w':=by
 have HS:=Fh (cO h x f v μ' hx hf hv);have FE:=Fh (MG.refl h);have r1:IntKind.u64.wrap (v:Int)=(v:Int):=by rw[IntKind.wrap_u64];omega
 clear h hv hx hf;go_in;go_wp2_with fail;refine HS.o.mono ?_;rintro e w1⟨rfl,hg⟩;have FA:=Fh (FE.o.trans hg);clear hg;go_wp2;go_end0;exact⟨rfl,FA.o⟩
theorem wZ(h:ao O μ w)(a n p v b1 b2:Nat)(m1 μ':Mm)(c1:w.cell? ⟨b1,0,none⟩=some (.pointer (some ⟨O.mb,0,none⟩)))(c2:w.cell? ⟨b2,0,none⟩=some (.int .i64 (v:Int)))(n1:¬au O b1)(n2:¬au O b2)(ha:a<4294967296)(h4:v<4294967296)(hn:jg a μ=some n)(hp:kL a μ=some p)(F6:bE n 6 v μ=some m1)(F0:bE p 5 v m1=some μ'):
  Calls prog 297 #[.pointer (some ⟨O.mb,0,none⟩),.int .i64 (a:Int),.func (.func 298) #[] #[.pointer (some ⟨b1,0,none⟩),.pointer (some ⟨b2,0,none⟩)]] w λe w'=>e= .returned (.tuple #[])/\MG O w μ' w':=by
 have Qj:n<4294967296:=jB hn;have I8:p<4294967296:=me hp;have HN:=Fh (hG h a n ha hn);have HP:=Fh (λW (hg:MG O w μ W)=>o9 hg.has a p ha hp);have H1:=Fh (λW (hg:MG O w μ W)=>yw hg.has n 6 v b1 b2 m1 (hg.kept.cell c1 n1) (hg.kept.cell c2 n2) Qj (by omega) h4 F6);have H2:=Fh (λW (hg:MG O w m1 W)=>yw hg.has p 5 v b1 b2 μ' (hg.kept.cell c1 n1) (hg.kept.cell c2 n2) I8 (by omega) h4 F0);have HE:=enters_of func298 (by kernel_rfl) rfl;have FE:=Fh (MG.refl h);clear h hn hp F6 F0 c1 c2 n1 n2;go_in;go_wp2_with fail;refine HN.o.mono ?_;rintro e w1⟨rfl,hg⟩;have FA:=Fh (FE.o.trans hg);clear hg;go_wp2_with fail;refine(HP.o _ FA.o).mono ?_;rintro e w2⟨rfl,hg⟩;have FK:=Fh (FA.o.trans hg);clear hg;go_wp2_with fail;refine(H1.o _ FK.o).mono ?_;rintro e w3⟨rfl,hg⟩;have FT:=Fh (FK.o.trans hg);clear hg;go_wp2_with fail;refine(H2.o _ FT.o).mono ?_;rintro e w4⟨rfl,hg⟩;have FW:=Fh (FT.o.trans hg);clear hg;go_wp2;go_end0;exact⟨rfl,FW.o⟩
theorem Ci(h:ao O μ w)(fr tw:Nat)(μ':Mm)(hf:fr<4294967296)(ht:tw<4294967296)(hv:jk fr tw μ=some μ'):Calls prog 218 #[.pointer (some ⟨O.mb,0,none⟩),.int .i64 (fr:Int),.int .i64 (tw:Int)] w λe w'=>e= .returned (.int .i64 0)/\MG O w μ' w':=by
 obtain⟨b,h1,F6⟩:=Fi hv;obtain⟨n,h2,F0⟩:=Fi F6;by_cases hn:n=0
 ·rw[if_pos hn]at F0;cases F0
 rw[if_neg hn]at F0;obtain⟨m2,h3,h4⟩:=Fi F0;obtain⟨w0,Fx⟩:=Fp (w.alloc (.cells #[.pointer (some ⟨O.mb,0,none⟩)] 68));obtain⟨w1,FJ⟩:=Fp (w0.alloc (.cells #[.int .i64 (tw:Int)] 3));have GK:MG O w μ w0:=by rw[Fx];exact(MG.refl h).alloc _
 have Gz:MG O w μ w1:=by rw[FJ];exact GK.alloc _
 have Gd:Whole w0 w.heap.size 68 #[.pointer (some ⟨O.mb,0,none⟩)]:=by rw[Fx];exact Whole.new w _ _
 have FN:Below w0.heap.size w0 w1:=by rw[FJ];exact(Below.refl _ _).alloc (Fm _) _
 have PO:=(FN.block _ Gd.lt).trans Gd;change Whole w1 w.heap.size _ _ at PO;have Gp:Whole w1 w0.heap.size 3 #[.int .i64 (tw:Int)]:=by rw[FJ];exact Whole.new w0 _ _
 obtain⟨b1,SD⟩:=Fp w.heap.size;obtain⟨b2,UG⟩:=Fp (w.heap.size+1);have WM:w0.heap.size=b2:=by rw[UG,Fx,bI]
 rw[<-SD]at PO;rw[WM]at Gp;have n1:¬au O b1:=by rw[SD];exact h.Fu (Fm _)
 have n2:¬au O b2:=by rw[<-WM];exact h.Fu GK.kept.size
 have HX:Hid (∀m W,MG O w1 m W->W.cell? ⟨b1,0,none⟩=some (.pointer (some ⟨O.mb,0,none⟩))/\W.cell? ⟨b2,0,none⟩=some (.int .i64 (tw:Int))):=Fh (λm W hg=>⟨hg.kept.cell (PO.cell 0) n1,hg.kept.cell (Gp.cell 0) n2⟩);have VD:=Fh n1;have QQ:=Fh n2;have FE:=Fh (MG.refl Gz.has);have FA:=Fh Gz;have LH:=Fh (λW (hg:MG O w1 μ W)=>mU hg.has tw b ht h1);have Ke:=Fh (λW (hg:MG O w1 μ W)=>hG hg.has tw n ht h2);have HRE:=Fh (λW (hg:MG O w1 m2 W)=>nQ hg.has fr tw μ' ht h4);have x0:=(HX.o _ _ FE.o).1;have x1:=(HX.o _ _ FE.o).2;have c0:((n:Int)==0)=false:=by rw[Fo];omega
 by_cases WN:n=fr
 ·rw[if_pos WN]at h3;have c1:((n:Int)==(fr:Int))=true:=by rw[WN];simp
  have HJ:=Fh (λW (hg:MG O w1 μ W)=>jC hg.has tw tw m2 ht ht h3);clear h hv h1 h2 h3 h4 F6 F0 GK Gz Gd PO Gp FN hn n1 n2 WN WM;go_in;go_upto_region 1 with fail;rw[<-Fx,<-FJ,<-UG,<-SD];clear Fx FJ UG SD;go_wp2_with fail;refine(LH.o _ FE.o).mono ?_;rintro e w3⟨rfl,hg⟩;have FT:=Fh (FE.o.trans hg);clear hg;clear x0 x1;have x0:=(HX.o _ _ FT.o).1;have x1:=(HX.o _ _ FT.o).2;go_wp2_with fail;refine(Ke.o _ FT.o).mono ?_;rintro e w4⟨rfl,hg⟩;have FW:=Fh (FT.o.trans hg);clear hg;clear x0 x1;have x0:=(HX.o _ _ FW.o).1;have x1:=(HX.o _ _ FW.o).2;go_wp2_with fail;refine(HJ.o _ FW.o).mono ?_;rintro e w5⟨rfl,hg⟩;have Gj:=Fh (FW.o.trans hg);clear hg;clear x0 x1;have x0:=(HX.o _ _ Gj.o).1;have x1:=(HX.o _ _ Gj.o).2;go_wp2_with fail;refine(HRE.o _ Gj.o).mono ?_;rintro e w6⟨rfl,hg⟩;have GP:=Fh (Gj.o.trans hg);clear hg;go_wp2;go_ret;exact⟨rfl,FA.o.trans GP.o⟩
 ·rw[if_neg WN]at h3;obtain⟨p,h5,Lk⟩:=Fi h3;obtain⟨m1,h6,h7⟩:=Fi Lk;have c1:((n:Int)==(fr:Int))=false:=by rw[Fo];omega
  have HJ:=Fh (λW (hg:MG O w1 μ W)=>wZ hg.has tw n p tw b1 b2 m1 m2 (HX.o _ _ hg).1 (HX.o _ _ hg).2 VD.o QQ.o ht ht h2 h5 h6 h7);clear h hv h1 h2 h3 h4 h5 h6 h7 F6 F0 Lk GK Gz Gd PO Gp FN hn n1 n2 WN WM;go_in;go_upto_region 1 with fail;rw[<-Fx,<-FJ,<-UG,<-SD];clear Fx FJ UG SD;go_wp2_with fail;refine(LH.o _ FE.o).mono ?_;rintro e w3⟨rfl,hg⟩;have FT:=Fh (FE.o.trans hg);clear hg;clear x0 x1;have x0:=(HX.o _ _ FT.o).1;have x1:=(HX.o _ _ FT.o).2;go_wp2_with fail;refine(Ke.o _ FT.o).mono ?_;rintro e w4⟨rfl,hg⟩;have FW:=Fh (FT.o.trans hg);clear hg;clear x0 x1;have x0:=(HX.o _ _ FW.o).1;have x1:=(HX.o _ _ FW.o).2;go_wp2_with fail;refine(HJ.o _ FW.o).mono ?_;rintro e w5⟨rfl,hg⟩;have Gj:=Fh (FW.o.trans hg);clear hg;clear x0 x1;have x0:=(HX.o _ _ Gj.o).1;have x1:=(HX.o _ _ Gj.o).2;go_wp2_with fail;refine(HRE.o _ Gj.o).mono ?_;rintro e w6⟨rfl,hg⟩;have GP:=Fh (Gj.o.trans hg);clear hg;go_wp2;go_ret;exact⟨rfl,FA.o.trans GP.o⟩
end
section
variable{O:av}{μ:Mm}{w:World}
structure BG(O:av)(w:World)(ab a:Nat)(b:Bk)(μ:Mm)(W:World):Prop where
 mg:MG O w μ W
 pt:Whole W ab 259 (JV O.mb a b)
 nt:¬au O ab
variable{ab a:Nat}{b:Bk}{W:World}
theorem BG.on{μ':Mm}{W2:World}(h:BG O w ab a b μ W)(k:MG O W μ' W2):BG O w ab a b μ' W2:=⟨h.mg.trans k,k.kept.whole h.pt h.nt,h.nt⟩
theorem BG.below{W2:World}(h:BG O w ab a b μ W)(k:Below W.heap.size W W2):BG O w ab a b μ W2:=h.on ((MG.refl h.mg.has).below k)
theorem BG.drew(h:BG O w ab a b μ W):BG O w ab a b μ W.drew:=h.below (Below.refl _ W).drew
theorem yx(h:ao O μ w)(a:Nat)(b:Bk):∃w0,w0=w.alloc (.cells (JV O.mb a b) 259)/\BG O w w.heap.size a b μ w0:=
 ⟨_,rfl,(MG.refl h).alloc _,Whole.new w _ _,h.Fu (Fm _)⟩
theorem BG.held(h:BG O w ab a b μ W):aa (au O) w W/\W.cell? ⟨ab,0,none⟩=some (.int .i64 (b.tag:Int))/\W.cell? ⟨ab,1,none⟩=some (.int .i64 (b.Ft:Int))/\W.cell? ⟨ab,2,none⟩=some (.bool (decide (b.used=1)))/\W.cell? ⟨ab,3,none⟩=some (.int .i64 (b.label:Int))/\W.cell? ⟨ab,4,none⟩=some (.int .u32 (b.name:Int))/\W.cell? ⟨ab,5,none⟩=some (.int .u32 (b.next:Int))/\W.cell? ⟨ab,6,none⟩=some (.int .u32 (b.prev:Int))/\W.cell? ⟨ab,7,none⟩=some (.int .u32 (b.refs:Int))/\W.cell? ⟨ab,8,none⟩=some (.int .u64 (b.FB:Int))/\W.cell? ⟨ab,9,none⟩=some (.int .u16 (b.typ:Int))/\W.cell? ⟨ab,10,none⟩=some (.int .i64 (b.size:Int))/\W.cell? ⟨ab,11,none⟩=some (.int .u32 (b.hash:Int))/\W.cell? ⟨ab,12,none⟩=some (.pointer (some ⟨O.mb,0,none⟩))/\W.cell? ⟨ab,13,none⟩=some (.int .i64 (a:Int)):=⟨h.mg.kept,mj h.pt⟩
theorem Cj(mb a:Nat)(b:Bk)(w:World)(hs:Sz w):Calls prog 295 #[.agg (JV mb a b)] w λe w'=>e= .returned (.int .i64 (ae b.Ft:Nat))/\Below w.heap.size w w':=by
 obtain⟨w0,Fx⟩:=Fp (w.alloc (.cells (JV mb a b) 259));have FM:Below w.heap.size w w0:=by rw[Fx];exact(Below.refl _ w).alloc (Fm _) _
 have Gd:Whole w0 w.heap.size 259 (JV mb a b):=by rw[Fx];exact Whole.new w _ _
 obtain⟨y0,y1,y2,y3,y4,y5,y6,y7,y8,y9,Ic,Ie,Iw,Iq⟩:=mj Gd;have IA:=Fh (sW b.Ft w0 (hs.below FM));have GW:=Fh FM;clear Gd FM hs y0 y2 y3 y4 y5 y6 y7 y8 y9 Ic Ie Iw Iq;unfold JV at Fx⊢;go_in;go_upto_region 1 with fail;rw[<-Fx];clear Fx;go_wp2_with fail;refine IA.o.mono ?_;rintro e w1⟨rfl,rfl⟩;go_wp2;go_ret;exact⟨rfl,GW.o⟩
theorem xa(h:ao O μ w)(a tw:Nat)(b:Bk)(p:List UInt8)(m1:Mm)(F6:dC a (ae b.Ft) 5 μ=some p)(F0:cV tw 5 p μ=some m1):Calls prog 215 #[.agg (JV O.mb a b),.int .i64 (tw:Int)] w λe w'=>e= .returned (.tuple #[])/\MG O w m1 w':=by
 have Ho:=nf F6;have LS:=(fR F6).1;obtain⟨w0,Fx,hq⟩:=yx h a b;have PE:=Fh hq;have IA:=Fh (λW (hs:BG O w w.heap.size a b μ W)=>(Cj O.mb a b W hs.mg.has.env.Hk).mono λe w' hq=>(⟨hq.1,hs.below hq.2⟩:e= .returned (.int .i64 (ae b.Ft:Nat))/\BG O w w.heap.size a b μ w'));have MH:=λW (hs:BG O w w.heap.size a b μ W)=>(mh hs.mg.has a (ae b.Ft) 5 p F6).mono λe w' hq=>(hq.imp λu x=>⟨x.1,aS x.2.1 hs.mg.kept.size,hs.on x.2.2⟩:∃u,e= .returned u/\w'.ownsRow w.heap.size 5 1 u (ae b.Ft) (ay p)/\BG O w w.heap.size a b μ w');have Sq:=Fh MH;have X9:=Fh (λW u (hs:BG O w w.heap.size a b μ W) (ho:W.ownsRow w.heap.size 5 1 u (ae b.Ft) (ay p))=>(mR hs.mg.has tw 5 p u m1 (λW2 Gg=>(gK.own (by rw[Ho];exact ho) (by omega)).Mh λk i v hk hv=>Gg.kept.cell hv (h.Fu (aF ho hk).1)) F0).mono λe w' hq=>(⟨hq.1,hs.on hq.2⟩:e= .returned (.bool true)/\BG O w w.heap.size a b m1 w'));obtain⟨ab,LD⟩:=Fp w.heap.size;have Gu:BG O w ab a b μ w0.drew:=by rw[LD];exact hq.drew
 rw[<-LD]at IA Sq X9 PE;unfold JV at IA Fx⊢;obtain⟨sz,F8⟩:=Fp (ae b.Ft);rw[<-F8]at IA Sq X9;clear h F6 F0 MH hq Ho LS F8;go_in;go_upto_region 1 with fail;rw[<-Fx,<-LD];clear Fx LD;obtain⟨_,y0,y1,y2,y3,y4,y5,y6,y7,y8,y9,Ic,Ie,Iw,Iq⟩:=PE.o.held
 go_region_held3 (λw'=>aa (au O) w w'/\w'.cell? ⟨ab,0,none⟩=some (.int .i64 (b.tag:Int))/\w'.cell? ⟨ab,1,none⟩=some (.int .i64 (b.Ft:Int))/\w'.cell? ⟨ab,2,none⟩=some (.bool (decide (b.used=1)))/\w'.cell? ⟨ab,3,none⟩=some (.int .i64 (b.label:Int))/\w'.cell? ⟨ab,4,none⟩=some (.int .u32 (b.name:Int))/\w'.cell? ⟨ab,5,none⟩=some (.int .u32 (b.next:Int))/\w'.cell? ⟨ab,6,none⟩=some (.int .u32 (b.prev:Int))/\w'.cell? ⟨ab,7,none⟩=some (.int .u32 (b.refs:Int))/\w'.cell? ⟨ab,8,none⟩=some (.int .u64 (b.FB:Int))/\w'.cell? ⟨ab,9,none⟩=some (.int .u16 (b.typ:Int))/\w'.cell? ⟨ab,10,none⟩=some (.int .i64 (b.size:Int))/\w'.cell? ⟨ab,11,none⟩=some (.int .u32 (b.hash:Int))/\w'.cell? ⟨ab,12,none⟩=some (.pointer (some ⟨O.mb,0,none⟩))/\w'.cell? ⟨ab,13,none⟩=some (.int .i64 (a:Int)))
  (first|assumption|exact BG.held (by assumption))
  (first
   |((go_at_call 295;refine(IA.o _ (by assumption)).mono ?_);rintro e w3 ⟨rfl,Il⟩)
   |((go_at_call 221;refine(Sq.o _ (by assumption)).mono ?_);rintro e w4 ⟨u,rfl,hu,Nf⟩)
   |((go_at_call 172;refine(X9.o _ _ (by assumption) (by assumption)).mono ?_);rintro e w5 ⟨rfl,Ik⟩))
 have Qr:=Fh Ik;clear Gu y0 y1 y2 y3 y4 y5 y6 y7 y8 y9 Ic Ie Iw Iq;go_wp2;go_end0;exact⟨rfl,Qr.o.mg⟩
end
end Go.Proofs.YtifkphcaelafjaaGreatDoor
namespace Go.FC
theorem pA(m:Mm)(a sz:Nat):∀(k i:Nat),cP m a sz i (k+1)=cP m a sz i k++(if m.FH (a+(i+k)*sz) sz=5 then [a+(i+k)*sz]else [])
 |0,i=>by
  rw[cP,cP,cP,Nat.add_zero];simp
 |k+1,i=>by
  rw[cP,pA m a sz k (i+1),show i+1+k=i+(k+1)by omega]
  conv=>rhs;rw[cP]
  by_cases h:m.FH (a+i*sz) sz=5
  ·rw[if_pos h,if_pos h];rfl
  ·rw[if_neg h,if_neg h]
theorem pB(m:Mm)(a sz:Nat):∀(k i:Nat),(cP m a sz i k).length<=k
 |0,i=>by simp[cP]
 |k+1,i=>by
  have:=pB m a sz k (i+1);rw[cP];split
  ·rw[List.length_cons];omega
  ·omega
end Go.FC
namespace Go.Proofs.YtifkphcaelafjaaGreatDoor
open Tryz
open Go.RowKit Go.Colm Go.FC Go.Maps
section
variable{O:av}{μ:Mm}{w:World}
theorem Ck(pb s a:Nat)(x:Sl)(B lb p:Nat)(l:List Nat)(w:World)(h:ao O μ w)(hp:Whole w pb 245 (Ha O.mb s a x))(hc:1<=x.Ft/\x.Ft<=9)(GU:p+ae x.Ft<=μ.size)(hb:eO B lb l w)(hB:B<=w.heap.size)(hl:l.length<=100000)(hB0:∀k,eX O k->k<B)(Kv:pb<B)(Mg:B<=lb):
  Calls prog 209 #[.int .i64 (p:Int),.pointer (some ⟨pb,0,none⟩),.pointer (some ⟨lb,0,none⟩)] w λe w'=>e= .returned (.tuple #[])/\eO B lb (l++(if μ.FH p (ae x.Ft)=5 then [p]else [])) w'/\aa (E7 B lb w) w w':=by
 have VN:=Fh (ul h s a p x hc GU);obtain⟨v,Pl,ho⟩:=hb;obtain⟨x0,x1,x2,x3,x4,x5,x6,x7⟩:=bg hp;have HVB:=Fh Pl;have HO:=Fh ho;have HB:=Fh hB;clear h hp GU Pl ho hB;by_cases hk:μ.FH p (ae x.Ft)=5
 ·rw[hk]at VN;rw[if_pos hk];have HL:=Fh (show Calls prog 191 #[.agg (Ha O.mb s a x),.int .i64 (p:Int)] w λe w'=>e= .returned (.bool true)/\Below w.heap.size w w' from VN.o);clear hk VN;unfold Ha at HL;go_in;go_wp2_with fail;refine HL.o.mono ?_;rintro e w1⟨rfl,FN⟩;have k1:aa (λ_=>False) w w1:=aa.below FN _;have l0:w1.cell? ⟨lb,0,none⟩=some v:=k1.cell (HVB.o.cell 0) id;obtain⟨w2,FL⟩:=Fp (w1.alloc (.cells #[.int .i64 (p:Int)] 3));have k2:aa (λ_=>False) w w2:=by rw[FL];exact k1.alloc _
  have Oz:Hid (w2.ownsRow B 3 1 v l.length (aO l)):=Fh (aj HO.o k2 λ_ _=>id);have KQ:w2.cell? ⟨w1.heap.size,0,none⟩=some (.int .i64 (p:Int)):=by rw[FL];exact(Whole.new w1 _ _).cell 0
  have Mj:=Fh KQ;have QV:=Fh (k2.whole HVB.o id);have Gx:Hid (B<=w2.heap.size):=Fh (Nat.le_trans HB.o k2.size);have MC:=Fh (bo.QT HO.o HVB.o (by decide));have HK2:=Fh k2;have HOG:=Fh (λj (hj:v.ownBlock=some j)=>aF HO.o hj);have HOI:Hid (∀j,v.ownBlock=some j->∃cs fz,w.heap[j]? =some (.cells cs 3 fz)):=Fh (λj hj=>by
   rcases HO.o.2 with⟨rfl,_⟩|⟨g,cap,Kb,rfl,MI,hh,_⟩
   ·simp[Value.ownBlock]at hj
   ·have e:g=j:=by simpa[Value.ownBlock]using hj
    subst e;exact⟨_,_,hh⟩)
  clear k1 k2 FN KQ x0 x1 x2 x3 x4 x5 x6 x7;subst FL;go_wp2_with (at_builtin;refine jv IN rfl _ _ rfl B v l.length (aO l) rfl Oz.o w1.heap.size (.int .i64 (p:Int)) rfl Mj.o rfl (by omega) Gx.o ?_;intro v' w4 J6 MD;have KS:=Fh J6;have QL:=Fh MD;have z0:w4.frozen? ⟨lb,0,none⟩=false:=(MD.whole QV.o MC.o).frozen 0;have z1:w4.cell? ⟨lb,0,none⟩=some v:=(MD.whole QV.o MC.o).cell 0;obtain⟨A4,c4,JF⟩:=aw J6;obtain⟨l4,Tc⟩:=Fp (l.length+1);rw[<-Tc]at JF;subst JF;clear J6 MD);go_end0;have hn:=fM KS.o;rw[Tc]at hn;have Gk:=QL.o.whole QV.o MC.o;refine⟨rfl,⟨_,Gk.put 0 _,aj hn ((aa.refl (λk=>k=lb) w4).setCell (.inl rfl) _) λj hj e=> ?_⟩,?_⟩
  ·rw[e]at hj;exact hn.QT Gk (by decide) hj
  ·refine((HK2.o.mono λ_ _ h=>h.elim).trans (QL.o.mono λk _ hk=> ?_)).setCell (.inl (.inl rfl)) _;exact .inr ⟨(HOG.o k hk).1,HOI.o k hk⟩
 ·rw[if_neg hk,List.append_nil];have HL:=Fh (show Calls prog 191 #[.agg (Ha O.mb s a x),.int .i64 (p:Int)] w λe w'=>e= .returned (.bool false)/\Below w.heap.size w w' by have:=VN.o;rw[decide_eq_false hk]at this;exact this);clear hk VN;unfold Ha at HL;go_in;go_wp2_with fail;refine HL.o.mono ?_;rintro e w1⟨rfl,FN⟩;have GH:=Fh FN;clear FN;go_wp2;go_end0;exact⟨rfl,eO.kept ⟨v,HVB.o,HO.o⟩ (aa.below GH.o λ_=>False) id (λ_ e=>e.elim),aa.below GH.o _⟩
theorem pC(h:ao O μ w)(s:Nat)(l:List Nat)(hv:kJ s μ=some l):Calls prog 112 #[.pointer (some ⟨O.mb,0,none⟩),.int .i64 (s:Int)] w λe w'=>∃v,e= .returned v/\bo w.heap.size w' v l/\MG O w μ w':=by
 obtain⟨x,h1,hv⟩:=Fi hv;obtain rfl:=Fk hv;obtain⟨hs,_⟩:=iI h1;obtain⟨IX,Y7⟩:=kf h.ok hs;have FE:Hid (MG O w μ w):=Fh (MG.refl h);have Ku:=Fh (λW (hg:MG O w μ W)=>oU hg.has s x h1);obtain⟨a,ha⟩:=Fp (ax μ s);rw[<-ha]at Ku IX⊢;clear h h1 hv ha hs;go_in;go_wp2_with fail;refine(Ku.o _ FE.o).mono ?_;rintro e w1⟨rfl,hg⟩;have FA:=Fh (FE.o.trans hg);clear hg;obtain⟨w2,FL,FF,Jn⟩:=jz FA.o.has s a x;obtain⟨pb,Kv⟩:=Fp w1.heap.size;rw[<-Kv]at Jn;obtain⟨lb,ZC⟩:=Fp (w1.heap.size+1);have Mg:lb=w2.heap.size:=by rw[ZC,FL,World.size_alloc]
 obtain⟨w3,F7⟩:=Fp (w2.alloc (.cells #[.slice none 0 0] 125));have Gf:Below w2.heap.size w2 w3:=by rw[F7];exact(Below.refl _ _).alloc (Fm _) _
 have Pt:=Fh (Jn.below Gf);have Gx:=Fh FF;have To:Hid (w1.heap.size<=pb):=Fh (by omega);have O2:Whole w3 lb 125 #[.slice none 0 0]:=by rw[F7,Mg];exact Whole.new _ _ _
 have TY:∀k,eX O k->k<lb:=λk hk=>by rw[Mg];exact Jn.has.lt hk
 have ZD:pb<lb:=by rw[Mg];exact Jn.pt.lt
 have ZE:lb<w3.heap.size:=O2.lt;have HW1:Hid (w.heap.size<=lb):=Fh (by have:=FA.o.kept.size;have:=FF.size;omega);have HEA:Hid (Calls prog 208 #[.agg (Ha O.mb s a x),.func (.func 209) #[] #[.pointer (some ⟨pb,0,none⟩),.pointer (some ⟨lb,0,none⟩)]] w3 λe w'=>e= .returned (.tuple #[])/\PG O w2 pb s a x μ w'/\eO lb lb (cP μ a (ae x.Ft) 0 (ai x.Ft)) w'/\lb<w'.heap.size):=Fh (by
  refine uq O.mb s a x w3 Pt.o.has.env.Hk 209 #[] #[.pointer (some ⟨pb,0,none⟩),.pointer (some ⟨lb,0,none⟩)] (by omega) (enters_of func209 (by kernel_rfl) rfl)
   (λi W=>PG O w2 pb s a x μ W/\eO lb lb (cP μ a (ae x.Ft) 0 i) W/\lb<W.heap.size)
   (λW hb=>⟨Pt.o.below hb,⟨_,(hb.block _ O2.lt).trans O2,dm _ _ _ _⟩,Nat.lt_of_lt_of_le ZE hb.size⟩)
   (λi W h=>h.1.has.env.Hk)
   (λi W W' h hb=>⟨h.1.below hb,h.2.1.kept (aa.below hb λ_=>False) id λ_ e=>e.elim,Nat.lt_of_lt_of_le h.2.2 hb.size⟩)
   (λi W hi h=> ?_)
  show Calls _ _ #[.int .i64 ((a+i*ae x.Ft:Nat):Int),.pointer (some ⟨pb,0,none⟩),.pointer (some ⟨lb,0,none⟩)] W _;have hc:1<=x.Ft/\x.Ft<=9:=by
   unfold ai at hi;split at hi
   ·assumption
   ·omega
  have hle:=(bF x.Ft).2;have hm:(i+1)*ae x.Ft<=ai x.Ft*ae x.Ft:=Nat.mul_le_mul_right _ hi;rw[Nat.succ_mul]at hm;have hle32:=(bF x.Ft).1;have G1:=pB μ a (ae x.Ft) i 0;refine(Ck pb s a x lb lb (a+i*ae x.Ft) (cP μ a (ae x.Ft) 0 i) W h.1.has h.1.pt hc (by omega) h.2.1 (Nat.le_of_lt h.2.2) (by omega) TY ZD (Fm _)).mono ?_;rintro e w'⟨rfl,IJ,hk⟩;refine⟨⟨_,rfl⟩,⟨h.1.beside TY ZD (by omega) hk λj hj=> ?_,?_,Nat.lt_of_lt_of_le h.2.2 hk.size⟩,hk.mono λk _ e=> ?_⟩
  ·rcases hj with e|⟨e,_⟩
   ·omega
   ·exact e
  ·rw[pA,Nat.zero_add];exact IJ
  ·rcases e with e|⟨_,e⟩
   ·exact .inl (by rw[e];exact ZE)
   ·exact .inr e)
 clear Gf O2 TY ZD ZE Jn FF;unfold Ha at HEA FL⊢;go_upto_region 3 with fail;rw[<-FL,<-ZC,<-Kv,<-F7];clear FL Kv Mg ZC F7;obtain⟨x0,x1,x2,x3,x4,x5,x6,x7⟩:=Pt.o.cells;go_wp2_with fail;refine HEA.o.mono ?_;rintro e w9⟨rfl,Sx,⟨v,Pl,Uj⟩,_⟩;have Q4:=Fh Sx;have HVO:=Fh Uj;have l0:w9.cell? ⟨lb,0,none⟩=some v:=Pl.cell 0;clear Sx Pl Uj x0 x1 x2 x3 x4 x5 x6 x7;go_wp2;go_ret;exact⟨v,rfl,aS HVO.o HW1.o,FA.o.trans (PG.new Gx.o To.o Q4.o)⟩
end
end Go.Proofs.YtifkphcaelafjaaGreatDoor
namespace Go.FC
theorem pD(m:Mm)(a sz:Nat):∀(k i x:Nat),x∈cP m a sz i k->m.FH x sz=5
 |0,i,x,h=>by simp[cP]at h
 |k+1,i,x,h=>by
  rw[cP]at h;split at h
  ·rcases List.mem_cons.1 h with rfl|h
   ·assumption
   ·exact pD m a sz k (i+1) x h
  ·exact pD m a sz k (i+1) x h
theorem dT{m:Mm}{a n:Nat}(h:m.FH a n=5):a+n<=m.size:=by
 unfold Mm.FH at h;split at h
 ·cases h
 ·omega
end Go.FC
namespace Go.Proofs.YtifkphcaelafjaaGreatDoor
open Tryz
open Go.RowKit Go.Colm Go.FC Go.Maps Go.FP Go.Fy Go.Fz
theorem nR{m:Mm}:∀ {l r:List Nat},gp m l=some r->r.length<=l.length
 | [],r,h=>by
  obtain rfl:=Fk h;simp
 |a::l,r,h=>by
  obtain⟨q,h1,h2⟩:=Fi h;obtain⟨r1,h3,h4⟩:=Fi h2;have:=nR h3;obtain rfl:=Fk h4;split
  ·rw[List.length_cons,List.length_cons];omega
  ·rw[List.length_cons];omega
theorem fs{m:Mm}{s:Nat}{l:List Nat}(h:kJ s m=some l):l.length<=32/\∀x∈l,x<=m.size:=by
 obtain⟨x,h1,h2⟩:=Fi h;obtain rfl:=Fk h2;have h3:=pB m (ax m s) (ae x.Ft) (ai x.Ft) 0;have h4:ai x.Ft<=32:=(bF x.Ft).1;exact⟨by omega,λy hy=>by have:=dT (pD m _ _ _ _ y hy);omega⟩
theorem gB{m:Mm}:∀ {k s:Nat} {r:List Nat},dG m s k=some r->r.length<=32*k
 |0,s,r,h=>by
  obtain rfl:=Fk h;simp
 |k+1,s,r,h=>by
  obtain⟨x,h1,h2⟩:=Fi h;obtain⟨l,h3,h4⟩:=Fi h2;obtain⟨r1,h5,h6⟩:=Fi h4;have:=gB h5;obtain rfl:=Fk h6;have hl:l.length<=32:=by
   split at h3
   ·obtain rfl:=Fk h3;simp
   ·obtain⟨lv,h7,h8⟩:=Fi h3;have h9:=nR h8;have Ta:=(fs h7).1;omega
  rw[List.length_append];omega
theorem kP{T E:TypeId}{z:Value}{nb:Nat}(hO:One T E z nb){w:World}{ops:Array Oper}{rest:List Oper}{o:Oper}{a:Act}{Q:Exit->Act->World->Prop}(J2:o.guard=none)(s x:Operand)
  (ho:o.op= .call {callee:= .builtin .append,args:= #[s,x],argTypes:= #[T,T]})
  (B:Nat) (v:Value) (n:Nat) (xs:List Value) (hs:a.eval s=v) (Gq:w.ownsRow B E 1 v n xs)
  (g:Nat) (u:Value) (hx:a.eval x= .slice (some ⟨g,0,none⟩) 1 1) (hg:w.cell? ⟨g,0,none⟩=some u) (h1:u.oneCell'=true) (hn:n<=1000000) (hB:B<=w.heap.size)
  (h:∀v' w',w'.ownsRow B E 1 v' (n+1) (xs++ [u])->aa (λk=>v.ownBlock=some k) w w'->(v'.ownBlock=v.ownBlock\/v'.ownBlock=some w.heap.size)->wpList prog ops Q rest (a.put o.dst v') w'):wpList prog ops Q (o::rest) a w:=by
 obtain⟨ht,hi,hz,IJ⟩:=hO;obtain⟨i0,Px,G9,G8,G7⟩:=info_parts hi;refine wpList_append_own_at w J2 s x T ho B E i0 z 1 nb ht Px G9 G8 G7 hz (by decide) v n xs hs Gq ⟨g,0,none⟩ 1 1 [u] hx rfl (λj u' hj=> ?_) (λu' hu=> ?_) (by unfold maxLen;omega) ?_ hB λv' w' h1 h2 _ h3=>h v' w' h1 (aa.grown h2) h3
 ·cases j with
  |zero=>
   simp at hj;subst hj;exact hg
  |succ j=>simp at hj
 ·simp at hu;subst hu;exact h1
 ·have:(n+1)*nb<=(n+1)*8:=Nat.mul_le_mul_left _ IJ;omega
def eU(A:Option Addr)(l:List Nat)(v:Value)(B:Nat)(W:World):Prop:=(∀(i x:Nat),l[i]? =some x->∃g o,A=some ⟨g,o,none⟩/\W.cell? ⟨g,o+i,none⟩=some (.int .i64 (x:Int)))/\∀a,A=some a->B<=a.block/\a.block<W.heap.size/\v.ownBlock≠some a.block
theorem eU.kept{A:Option Addr}{l:List Nat}{v:Value}{B:Nat}{W W':World}{S:Nat->Prop}(h:eU A l v B W)(hk:aa S W W')(hS:∀a,A=some a->¬S a.block):eU A l v B W':=
 ⟨λi x hx=>by
  obtain⟨g,o,e,hc⟩:=h.1 i x hx;exact⟨g,o,e,hk.cell hc (show¬S g from hS ⟨g,o,none⟩ e)⟩,λa e=>by
  obtain⟨h1,h2,h3⟩:=h.2 a e;exact⟨h1,Nat.lt_of_lt_of_le h2 hk.size,h3⟩⟩
theorem eU.grown{A:Option Addr}{l:List Nat}{v v':Value}{B:Nat}{W W':World}(h:eU A l v B W)(hk:aa (λk=>v.ownBlock=some k) W W')(hv:v'.ownBlock=v.ownBlock\/v'.ownBlock=some W.heap.size):eU A l v' B W':=by
 have h2:=h.kept hk λa e=>(h.2 a e).2.2;refine⟨h2.1,λa e=>⟨(h2.2 a e).1,(h2.2 a e).2.1,λe2=> ?_⟩⟩;rcases hv with hv|hv
 ·exact(h.2 a e).2.2 (by rw[<-hv];exact e2)
 ·rw[hv]at e2;have:=(h.2 a e).2.1;injection e2 with e2;omega
section
variable{O:av}{μ:Mm}{w:World}
theorem ao.GX(h:ao O μ w):μ.size<1000000/\μ.Fq<=64:=by
 obtain⟨k1,k2,k3,k4,k5⟩:=bB.1 h.ok;refine⟨?_,k2⟩;unfold Mm.size br aN az;omega
def BlQ(O:av)(μ:Mm)(w:World)(s:Nat)(l:List Nat)(A:Option Addr)(n c:Nat)(cl r:List Nat)(wr:World):Prop:=n=cl.length/\bo w.heap.size wr (.slice A n c) cl/\MG O w μ wr/\dG μ s (μ.Fq-s)=some r/\cl++r=l
theorem Af(h:ao O μ w)(l:List Nat)(hv:sS μ=some l):Calls prog 340 #[.pointer (some ⟨O.mb,0,none⟩)] w λe w'=>∃v,e= .returned v/\bo w.heap.size w' v l/\MG O w μ w':=by
 obtain⟨F8,IX⟩:=h.GX;have G1:l.length<=32*μ.Fq:=gB hv;have L0:Hid (l.length<=2048):=Fh (by omega);have HV:=Fh (show dG μ 0 μ.Fq=some l from hv);have HC:=Fh (aD h);have FE:=Fh (MG.refl h);have IA:=Fh F8;have HH:=Fh h;obtain⟨S,hS⟩:=Fp μ.Fq;rw[<-hS]at HC IX;have HS:=Fh hS;clear h hv G1 hS F8;go_in;go_wp2_with fail;go_step3;go_wp2_with fail;go_step3;go_wp2_with fail;refine HC.o.mono ?_;rintro e w1⟨rfl,hb⟩;have FA:=Fh (FE.o.below hb);clear hb;go_wp2_with fail
 go_loopw [3,4,5,6,8,9,10,14] (λs3 _ _ _ _ _ _ Ua wr=>∃(s:Nat) (A:Option Addr) (n c:Nat) (cl r:List Nat),s<=S/\s3= .slice A n c/\Ua= .int .i64 s/\Hid (BlQ O μ w s l A n c cl r wr)) (λ_ _ _ _ _ _ _ Ua wr=>match Ua with| .int _ m=>S-m.toNat|_=>0)
 case atStart=>exact⟨0,none,0,0,[],l,Nat.zero_le _,rfl,rfl,Fh ⟨rfl,World.ownsRow_nil _ _ _ _,FA.o,HV.o,rfl⟩⟩
 case round=>
  obtain⟨s,A,n,c,cl,r,hs,rfl,rfl,HQ⟩:=hrel;by_cases FR:s<S
  ·obtain⟨k,hk⟩:∃k,S-s=k+1:=⟨S-s-1,by omega⟩;obtain⟨hn,ho,hg,hb,GI⟩:=HQ.o;rw[<-HS.o,hk]at hb;obtain⟨x,h1,FN⟩:=Fi hb;obtain⟨lb,h2,FF⟩:=Fi FN;obtain⟨r1,h3,h4⟩:=Fi FF;have hr:=Fk h4;have Gw:=gx hg.has s x h1;unfold LF at Gw;have Gn:=Fh Gw;have HO:=Fh ho;have HG:=Fh hg;have HN:=Fh hn;have HK:Hid (k=S-(s+1)):=Fh (by omega);have H3:=Fh h3;have JE:Hid (cl++(lb++r1)=l):=Fh (by rw[hr];exact GI);have HXB:=Fh (iI h1);by_cases hx:x.live=0
   ·rw[if_pos hx]at h2;obtain rfl:=Fk h2;have c0:((x.live:Int)==0)=true:=by rw[hx];rfl
    clear hk hn ho hg hb GI FN FF h1 h2 h3 h4 hr Gw hx;go_wp2_with fail;refine Gn.o.mono ?_;rintro e w2⟨rfl,hg⟩;have FK:=Fh (HG.o.trans hg);have Oz:=Fh (aj HO.o hg.kept λj hj=>HH.o.Fu (aF HO.o hj).1);clear hg;go_wp2_with fail;refine⟨⟨s+1,A,n,c,cl,r1,by omega,rfl,by go_num,Fh ⟨HN.o,aj Oz.o ((aa.refl (λ_=>False) _).alloc _) (λ_ _ h=>h),FK.o.alloc _,by rw[<-HS.o,<-HK.o];exact H3.o,JE.o⟩⟩,by simp;omega⟩
   ·rw[if_neg hx]at h2;obtain⟨lv,h5,h6⟩:=Fi h2;have c0:((x.live:Int)==0)=false:=by rw[Fo];omega
    have HLV:=Fh (λW (hg:MG O w μ W)=>pC hg.has s lv h5);have HLN:=Fh (fs h5);have H6:=Fh h6;clear hk hn ho hg hb GI FN FF h1 h2 h3 h4 hr Gw hx h5 h6;go_wp2_with fail;refine Gn.o.mono ?_;rintro e w2⟨rfl,hg⟩;have FK:=Fh (HG.o.trans hg);have Oz:=Fh (aj HO.o hg.kept λj hj=>HH.o.Fu (aF HO.o hj).1);clear hg;go_wp2_with fail;refine(HLV.o _ (FK.o.alloc _)).mono ?_;rintro e w3⟨v3,rfl,Nj,hg⟩;obtain⟨A3,c3,GM,hcell⟩:=Nj.cell;subst GM;have Vy:=Fh (aj (aj Oz.o ((aa.refl (λ_=>False) _).alloc _) (λ_ _ h=>h)) hg.kept λj hj=>HH.o.Fu (aF HO.o hj).1);have FT:=Fh ((FK.o.alloc _).trans hg);have IP:Hid (eU A3 lv (.slice A n c) w.heap.size w3):=Fh ⟨hcell,λa e=>by
     have h1:=aF Nj (k:=a.block) (by rw[e];rfl);have h2:w.heap.size<=w2.heap.size:=FK.o.kept.size;have h3:w2.heap.size<=(w2.alloc (.cells #[.int .i64 (x.Ft:Int),.int .i64 (x.live:Int),.int .u32 (x.free:Int),.int .i64 (x.next:Int),.int .i64 (x.prev:Int)] 176)).heap.size:=by rw[bI];omega
     refine⟨by omega,h1.2,λe2=> ?_⟩;have h4:=(aF Oz.o e2).2;omega⟩
    clear hg Nj hcell;obtain⟨L,hL⟩:=Fp lv.length;rw[<-hL]at HLN⊢;have HL:=Fh hL;have WO:L<=32:=HLN.o.1;clear hL;go_wp2_with fail
    go_loopw [3,8,9,10,30] (λs3 _ _ _ Zv W=>∃(j:Nat) (A':Option Addr) (n' c':Nat) (VS r2:List Nat),j<=L/\s3= .slice A' n' c'/\Zv= .int .i64 j/\Hid (n'=VS.length/\bo w.heap.size W (.slice A' n' c') VS)/\Hid (MG O w μ W)/\Hid (eU A3 lv (.slice A' n' c') w.heap.size W)/\Hid (gp μ (lv.drop j)=some r2/\VS++r2=cl++lb)) (λ_ _ _ _ Zv W=>match Zv with| .int _ m=>L-m.toNat|_=>0)
    case atStart=>exact⟨0,A,n,c,cl,lb,Nat.zero_le _,rfl,rfl,Fh ⟨HN.o,Vy.o⟩,FT.o|>Fh,IP,Fh ⟨H6.o,rfl⟩⟩
    case round=>
     obtain⟨j,A',n',c',VS,r2,hj,rfl,rfl,KS,FW,Lc,IM⟩:=hrel;by_cases K0:j<L
     ·have G1:=HL.o;obtain⟨a,ha⟩:∃a,lv[j]? =some a:=⟨_,Fl (by omega)⟩;obtain⟨g,o,rfl,Lr⟩:=Lc.o.1 j a ha;have hdr:lv.drop j=a::lv.drop (j+1):=by
       rw[List.drop_eq_getElem_cons (by omega)];rw[Fl (by omega)]at ha;rw[Fk ha]
      have Gk:=IM.o;rw[hdr]at Gk;obtain⟨q,Jm,IH⟩:=Fi Gk.1;obtain⟨r3,Jw,Mo⟩:=Fi IH;have hq5:=Fk Mo;obtain⟨b,er⟩:=q;have I7:a<4294967296:=by
       have:=HLN.o.2 a (List.mem_of_getElem? ha);have:=IA.o;omega
      have HM:=Fh (yv FW.o.has a b er I7 Jm);unfold JV at HM;have Nc:=Fh Jw;have Kk:=Gk.2;rw[<-hq5]at Kk;clear ha hdr Gk Jm IH Jw Mo hq5 I7 G1;by_cases hk:er=0/\b.tag≠0
      ·rw[decide_eq_true hk]at HM;rw[if_pos hk]at Kk;have Rj:=Fh Kk;clear Kk hk;go_wp2_with fail;refine HM.o.mono ?_;rintro e w5⟨rfl,hg⟩;have Gj:=Fh (FW.o.trans hg);have WJ:=Fh (aj KS.o.2 hg.kept λj hj=>HH.o.Fu (aF KS.o.2 hj).1);have QP:=Fh (Lc.o.kept hg.kept λa e=>HH.o.Fu (Lc.o.2 a e).1);clear hg;obtain⟨w6,JR⟩:=Fp (w5.alloc (.cells (JV O.mb a b) 259));obtain⟨w7,Li⟩:=Fp (w6.alloc (.cells #[.int .i64 (a:Int)] 3));have k7:aa (λ_=>False) w5 w7:=by rw[Li,JR];exact((aa.refl (λ_=>False) w5).alloc _).alloc _
       have Iv:Hid (MG O w μ w7):=Fh (by rw[Li,JR];exact(Gj.o.alloc _).alloc _);have WQ:Hid (w7.ownsRow w.heap.size 3 1 (.slice A' n' c') n' (aO VS)):=Fh (by have h:=aj WJ.o k7 (λ_ _ h=>h);rw[<-KS.o.1]at h;exact h);have Wd:=Fh (QP.o.kept k7 λ_ _ h=>h);have hc7:w7.cell? ⟨w5.heap.size+1,0,none⟩=some (.int .i64 (a:Int)):=by rw[show w5.heap.size+1=w6.heap.size by rw[JR,bI],Li];exact(Whole.new w6 _ _).cell 0
       have UH:=Fh hc7;have OH:Hid (w.heap.size<=w7.heap.size):=Fh Iv.o.kept.size;have hn6:n'<=1000000:=by
        have h1:=KS.o.1;have h2:=L0.o;have h3:=congrArg List.length JE.o;have h4:=congrArg List.length IM.o.2;rw[List.length_append,List.length_append]at h3 h4;omega
       clear k7 hc7;subst Li;subst JR;go_wp2_with (at_builtin;refine kP IN rfl _ _ rfl w.heap.size (.slice A' n' c') n' (aO VS) rfl WQ.o (w5.heap.size+1) (.int .i64 (a:Int)) rfl UH.o rfl hn6 OH.o ?_;intro v' w8 J8 KM WK;have WR:=Fh J8;have Qm:=Fh KM;have HR8:=Fh (Wd.o.grown KM WK);obtain⟨A8,c8,ZF⟩:=aw J8;subst ZF;clear J8 KM WK);refine⟨⟨j+1,A8,n'+1,c8,VS++ [a],r3,by omega,rfl,by go_num,Fh ⟨by rw[List.length_append,<-KS.o.1];rfl,fM (by rw[<-KS.o.1];exact WR.o)⟩,Fh (MG.beside HH.o Iv.o Qm.o λk hk=>(aF WQ.o hk).1),HR8,Fh ⟨Nc.o,by rw[List.append_assoc];exact Rj.o⟩⟩,by simp;omega⟩
      ·rw[decide_eq_false hk]at HM;rw[if_neg hk]at Kk;have Rj:=Fh Kk;clear Kk hk;go_wp2_with fail;refine HM.o.mono ?_;rintro e w5⟨rfl,hg⟩;have Gj:=Fh (FW.o.trans hg);have WJ:=Fh (aj KS.o.2 hg.kept λj hj=>HH.o.Fu (aF KS.o.2 hj).1);have QP:=Fh (Lc.o.kept hg.kept λa e=>HH.o.Fu (Lc.o.2 a e).1);clear hg;go_wp2_with fail;refine⟨⟨j+1,A',n',c',VS,r3,by omega,rfl,by go_num,Fh ⟨KS.o.1,aj WJ.o ((aa.refl (λ_=>False) w5).alloc _) (λ_ _ h=>h)⟩,Fh (Gj.o.alloc _),Fh (QP.o.kept ((aa.refl (λ_=>False) w5).alloc _) λ_ _ h=>h),Fh ⟨Nc.o,Rj.o⟩⟩,by simp;omega⟩
     ·have Pj:lv.drop j= []:=List.drop_eq_nil_of_le (by rw[<-HL.o];omega);have Gk:=IM.o;rw[Pj]at Gk;have Gc:=(Fk Gk.1).symm;have MO:=Gk.2;rw[Gc,List.append_nil]at MO;have HX:Hid (BlQ O μ w (s+1) l A' n' c' VS r1 _):=Fh ⟨KS.o.1,KS.o.2,FW.o,by rw[<-HS.o,<-HK.o];exact H3.o,by rw[MO,List.append_assoc];exact JE.o⟩;clear Pj Gk Gc MO;go_wp2_with fail;exact⟨⟨s+1,A',n',c',VS,r1,by omega,rfl,by go_num,HX⟩,by simp;omega⟩
  ·have YT:s=S:=by omega
   subst YT;have hl:r= []:=by
    have:=HQ.o.2.2.2.1;rw[<-HS.o,Nat.sub_self]at this;exact(Fk this).symm
   have HX:Hid (bo w.heap.size wr (.slice A n c) l/\MG O w μ wr):=Fh ⟨by
    have h1:=HQ.o.2.1;have h2:=HQ.o.2.2.2.2;rw[hl,List.append_nil]at h2;rw[<-h2];exact h1,HQ.o.2.2.1⟩
   clear hl;go_wp2_with fail;rw[Exit.noGoto_ret];go_ret;exact⟨_,rfl,HX.o.1,HX.o.2⟩
end
theorem pE{m:Mm}:∀ {l r:List Nat},gp m l=some r->∀x∈r,x∈l
 | [],r,h,x,hx=>by
  obtain rfl:=Fk h;exact hx
 |a::l,r,h,x,hx=>by
  obtain⟨q,h1,h2⟩:=Fi h;obtain⟨r1,h3,h4⟩:=Fi h2;have hi:=pE h3;obtain rfl:=Fk h4;split at hx
  ·rcases List.mem_cons.1 hx with rfl|hx
   ·exact List.mem_cons_self ..
   ·exact List.mem_cons_of_mem _ (hi x hx)
  ·exact List.mem_cons_of_mem _ (hi x hx)
theorem lm{m:Mm}:∀ {k s:Nat} {r:List Nat},dG m s k=some r->∀x∈r,x<=m.size
 |0,s,r,h,x,hx=>by
  obtain rfl:=Fk h;simp at hx
 |k+1,s,r,h,x,hx=>by
  obtain⟨y,h1,h2⟩:=Fi h;obtain⟨l,h3,h4⟩:=Fi h2;obtain⟨r1,h5,h6⟩:=Fi h4;have hi:=lm h5;obtain rfl:=Fk h6;rcases List.mem_append.1 hx with hx|hx
  ·split at h3
   ·obtain rfl:=Fk h3;simp at hx
   ·obtain⟨lv,h7,h8⟩:=Fi h3;exact(fs h7).2 x (pE h8 x hx)
  ·exact hi x hx
theorem lq{m:Mm}{a:Nat}:∀ {l r:List Nat},jY m a l=some r->r.length<=l.length/\∀x∈r,x∈l
 | [],r,h=>by
  obtain rfl:=Fk h;simp
 |y::l,r,h=>by
  obtain⟨n,h1,h2⟩:=Fi h;obtain⟨r1,h3,h4⟩:=Fi h2;obtain⟨i1,i2⟩:=lq h3;obtain rfl:=Fk h4;split
  ·refine⟨by rw[List.length_cons,List.length_cons];omega,λx hx=> ?_⟩;rcases List.mem_cons.1 hx with rfl|hx
   ·exact List.mem_cons_self ..
   ·exact List.mem_cons_of_mem _ (i2 x hx)
  ·exact⟨by rw[List.length_cons];omega,λx hx=>List.mem_cons_of_mem _ (i2 x hx)⟩
section
variable{O:av}{μ:Mm}{w:World}
theorem xd(h:ao O μ w){a:Nat}{l:List Nat}(hv:iA a μ=some l):l.length<=2048/\∀x∈l,x<4294967296:=by
 obtain⟨F8,IX⟩:=h.GX;obtain⟨lb,h1,h2⟩:=Fi hv;obtain⟨i1,i2⟩:=lq h2;have h3:=gB (show dG μ 0 μ.Fq=some lb from h1);exact⟨by omega,λx hx=>by have:=lm (show dG μ 0 μ.Fq=some lb from h1) x (i2 x hx);omega⟩
theorem Ah(h:ao O μ w)(t:Nat)(l:List Nat)(hv:iA t μ=some l):Calls prog 296 #[.pointer (some ⟨O.mb,0,none⟩),.int .i64 (t:Int)] w λe w'=>∃v,e= .returned v/\bo w.heap.size w' v l/\MG O w μ w':=by
 obtain⟨F8,IX⟩:=h.GX;obtain⟨lv,h1,h2⟩:=Fi hv;have G1:lv.length<=32*μ.Fq:=gB h1;have Rc:=lm (show dG μ 0 μ.Fq=some lv from h1);have RS:Hid (∀x∈lv,x<4294967296):=Fh λx hx=>by have:=Rc x hx;omega
 have HLN:=Fh (lq h2).1;have II:=Fh (Af h lv h1);have H2:=Fh h2;have HH:=Fh h;have FE:=Fh (MG.refl h);obtain⟨L,hL⟩:=Fp lv.length;have WO:L<=2048:=by omega
 have HL:=Fh hL;clear h hv h1 h2 G1 Rc F8 IX hL;go_in;go_wp2_with fail;refine II.o.mono ?_;rintro e w1⟨v1,rfl,NH,hg⟩;obtain⟨A3,c3,F6,hcell⟩:=NH.cell;subst F6;have FA:=Fh hg;have J5:Hid (eU A3 lv (.slice none 0 0) w.heap.size w1):=Fh ⟨hcell,λa e=>by
  have h1:=aF NH (k:=a.block) (by rw[e];rfl);exact⟨h1.1,h1.2,by simp[Value.ownBlock]⟩⟩
 rw[<-HL.o];clear hg NH hcell;go_wp2_with fail
 go_loopw [5,7,11] (λs5 _ La W=>∃(j:Nat) (A':Option Addr) (n' c':Nat) (cl r:List Nat),j<=L/\s5= .slice A' n' c'/\La= .int .i64 j/\Hid (n'=cl.length/\bo w.heap.size W (.slice A' n' c') cl)/\Hid (MG O w μ W)/\Hid (eU A3 lv (.slice A' n' c') w.heap.size W)/\Hid (jY μ t (lv.drop j)=some r/\cl++r=l)) (λ_ _ La W=>match La with| .int _ m=>L-m.toNat|_=>0)
 case atStart=>exact⟨0,none,0,0,[],l,Nat.zero_le _,rfl,rfl,Fh ⟨rfl,World.ownsRow_nil _ _ _ _⟩,FA,J5,Fh ⟨H2.o,rfl⟩⟩
 case round=>
  obtain⟨j,A',n',c',cl,r,hj,rfl,rfl,KS,FW,Lc,IM⟩:=hrel;by_cases K0:j<L
  ·have G1:=HL.o;obtain⟨a,ha⟩:∃a,lv[j]? =some a:=⟨_,Fl (by omega)⟩;obtain⟨g,o,rfl,Lr⟩:=Lc.o.1 j a ha;have hdr:lv.drop j=a::lv.drop (j+1):=by
    rw[List.drop_eq_getElem_cons (by omega)];rw[Fl (by omega)]at ha;rw[Fk ha]
   have Gk:=IM.o;rw[hdr]at Gk;obtain⟨n,Jm,IH⟩:=Fi Gk.1;obtain⟨r3,Jw,Mo⟩:=Fi IH;have hq5:=Fk Mo;have I7:a<4294967296:=RS.o a (List.mem_of_getElem? ha);have Qj:n<4294967296:=jx (W:=4) Jm (by omega) (by decide);have HM:=Fh (eF FW.o.has a 4 n I7 (by omega) Jm);have Nc:=Fh Jw;have Kk:=Gk.2;rw[<-hq5]at Kk;have r1:IntKind.i64.wrap (n:Int)=(n:Int):=by rw[IntKind.wrap_i64];omega
   have hn6:n'<=1000000:=by
    have h1:=KS.o.1;have h2:=HLN.o;have h4:=congrArg List.length IM.o.2;rw[List.length_append]at h4;omega
   clear ha hdr Gk Jm IH Jw Mo hq5 I7 G1;by_cases hk:n=t
   ·have c0:((n:Int)==(t:Int))=true:=by rw[hk];simp
    rw[if_pos hk]at Kk;have Rj:=Fh Kk;clear Kk hk;go_wp2_with fail;refine HM.o.mono ?_;rintro e w5⟨rfl,hg⟩;have Gj:=Fh (FW.o.trans hg);have WJ:=Fh (aj KS.o.2 hg.kept λj hj=>HH.o.Fu (aF KS.o.2 hj).1);have QP:=Fh (Lc.o.kept hg.kept λa e=>HH.o.Fu (Lc.o.2 a e).1);clear hg;obtain⟨w7,Li⟩:=Fp (w5.alloc (.cells #[.int .i64 (a:Int)] 3));have k7:aa (λ_=>False) w5 w7:=by rw[Li];exact(aa.refl (λ_=>False) w5).alloc _
    have Iv:Hid (MG O w μ w7):=Fh (by rw[Li];exact Gj.o.alloc _);have WQ:Hid (w7.ownsRow w.heap.size 3 1 (.slice A' n' c') n' (aO cl)):=Fh (by have h:=aj WJ.o k7 (λ_ _ h=>h);rw[<-KS.o.1]at h;exact h);have Wd:=Fh (QP.o.kept k7 λ_ _ h=>h);have hc7:w7.cell? ⟨w5.heap.size,0,none⟩=some (.int .i64 (a:Int)):=by rw[Li];exact(Whole.new w5 _ _).cell 0
    have UH:=Fh hc7;have OH:Hid (w.heap.size<=w7.heap.size):=Fh Iv.o.kept.size;clear k7 hc7;subst Li;go_wp2_with (at_builtin;refine kP IN rfl _ _ rfl w.heap.size (.slice A' n' c') n' (aO cl) rfl WQ.o w5.heap.size (.int .i64 (a:Int)) rfl UH.o rfl hn6 OH.o ?_;intro v' w8 J8 KM WK;have WR:=Fh J8;have Qm:=Fh KM;have HR8:=Fh (Wd.o.grown KM WK);obtain⟨A8,c8,ZF⟩:=aw J8;subst ZF;clear J8 KM WK);refine⟨⟨j+1,A8,n'+1,c8,cl++ [a],r3,by omega,rfl,by go_num,Fh ⟨by rw[List.length_append,<-KS.o.1];rfl,fM (by rw[<-KS.o.1];exact WR.o)⟩,Fh (MG.beside HH.o Iv.o Qm.o λk hk=>(aF WQ.o hk).1),HR8,Fh ⟨Nc.o,by rw[List.append_assoc];exact Rj.o⟩⟩,by simp;omega⟩
   ·have c0:((n:Int)==(t:Int))=false:=by rw[Fo];omega
    rw[if_neg hk]at Kk;have Rj:=Fh Kk;clear Kk hk;go_wp2_with fail;refine HM.o.mono ?_;rintro e w5⟨rfl,hg⟩;have Gj:=Fh (FW.o.trans hg);have WJ:=Fh (aj KS.o.2 hg.kept λj hj=>HH.o.Fu (aF KS.o.2 hj).1);have QP:=Fh (Lc.o.kept hg.kept λa e=>HH.o.Fu (Lc.o.2 a e).1);clear hg;go_wp2_with fail;refine⟨⟨j+1,A',n',c',cl,r3,by omega,rfl,by go_num,Fh ⟨KS.o.1,WJ.o⟩,Gj,QP,Fh ⟨Nc.o,Rj.o⟩⟩,by simp;omega⟩
  ·have Pj:lv.drop j= []:=List.drop_eq_nil_of_le (by rw[<-HL.o];omega);have Gk:=IM.o;rw[Pj]at Gk;have Gc:=(Fk Gk.1).symm;have MO:=Gk.2;rw[Gc,List.append_nil]at MO;have HX:=Fh (show bo w.heap.size _ (.slice A' n' c') l from by rw[<-MO];exact KS.o.2);clear Pj Gk Gc MO;go_wp2_with fail
   try rw[Exit.noGoto_ret]
   go_ret;exact⟨_,rfl,HX.o,FW.o⟩
end
section
variable{O:av}{μ:Mm}{w:World}
theorem vd(h:ao O μ w)(a tw:Nat)(b:Bk)(lv:List Nat)(μ':Mm)(ht:tw<4294967296)(F6:iA a μ=some lv)(F0:iB tw lv μ=some μ'):Calls prog 216 #[.agg (JV O.mb a b),.int .i64 (tw:Int)] w λe w'=>(∃n:Int,e= .returned (.int .i64 n))/\MG O w μ' w':=by
 obtain⟨G1,Rc⟩:=xd h F6;obtain⟨w0,Fx,hq⟩:=yx h a b;have PE:=Fh hq;have HNA:=Fh (Ah hq.mg.has a lv F6);have Qn:=Fh F0;have RS:=Fh Rc;have HH:=Fh h;obtain⟨L,hL⟩:=Fp lv.length;have WO:L<=2048:=by omega
 have HL:=Fh hL;have r1:IntKind.u64.wrap (tw:Int)=(tw:Int):=by rw[IntKind.wrap_u64];omega
 obtain⟨ab,LD⟩:=Fp w.heap.size;rw[<-LD]at PE;unfold JV at Fx⊢;clear h F6 F0 G1 Rc hq hL;go_in;go_upto_region 1 with fail;rw[<-Fx,<-LD];clear Fx;have YM:=Fh LD;clear LD;obtain⟨_,y0,y1,y2,y3,y4,y5,y6,y7,y8,y9,Ic,Ie,Iw,Iq⟩:=PE.o.held;go_wp2_with fail;refine HNA.o.mono ?_;rintro e w1⟨v1,rfl,NH,hg⟩;clear y0 y1 y2 y3 y4 y5 y6 y7 y8 y9 Ic Ie Iw Iq;obtain⟨A3,c3,F6,hcell⟩:=NH.cell;subst F6;have GH:=Fh (PE.o.on hg);have J5:Hid (eU A3 lv (.slice none 0 0) w.heap.size w1):=Fh ⟨hcell,λa e=>by
  have h1:=aF NH (k:=a.block) (by rw[e];rfl);exact⟨Nat.le_trans PE.o.mg.kept.size h1.1,h1.2,by simp[Value.ownBlock]⟩⟩
 rw[<-HL.o];clear hg NH hcell;go_wp2_with fail
 go_loopw [7,15] (λ_ s15 W=>∃(j:Nat) (m:Mm),j<=L/\s15= .int .i64 j/\Hid (BG O w ab a b m W)/\Hid (eU A3 lv (.slice none 0 0) w.heap.size W)/\Hid (iB tw (lv.drop j) m=some μ')) (λ_ s15 W=>match s15 with| .int _ m=>L-m.toNat|_=>0)
 case atStart=>exact⟨0,μ,Nat.zero_le _,rfl,GH,J5,Qn⟩
 case round=>
  obtain⟨j,m,hj,rfl,IM,Lc,Tv⟩:=hrel;by_cases K0:j<L
  ·have G1:=HL.o;obtain⟨x,ha⟩:∃a,lv[j]? =some a:=⟨_,Fl (by omega)⟩;obtain⟨g,o,rfl,Lr⟩:=Lc.o.1 j x ha;have hdr:lv.drop j=x::lv.drop (j+1):=by
    rw[List.drop_eq_getElem_cons (by omega)];rw[Fl (by omega)]at ha;rw[Fk ha]
   have Gk:=Tv.o;rw[hdr]at Gk;obtain⟨m1,Jm,IH⟩:=Fi Gk;have I7:x<4294967296:=RS.o x (List.mem_of_getElem? ha);have HM:=Fh (cO IM.o.mg.has x 4 tw m1 I7 (by omega) Jm);have Up:=Fh IH;obtain⟨_,y0,y1,y2,y3,y4,y5,y6,y7,y8,y9,Ic,Ie,Iw,Iq⟩:=IM.o.held;clear ha hdr Gk Jm IH I7 G1 y0 y1 y2 y3 y4 y5 y6 y7 y8 y9 Ic Ie Iq;go_wp2_with fail;refine HM.o.mono ?_;rintro e w5⟨rfl,hg⟩;have Mi:=Fh (IM.o.on hg);have QP:=Fh (Lc.o.kept hg.kept λa e=>HH.o.Fu (Lc.o.2 a e).1);clear hg;go_wp2_with fail;exact⟨⟨j+1,m1,by omega,by go_num,Mi,QP,Up⟩,by simp;omega⟩
  ·have Pj:lv.drop j= []:=List.drop_eq_nil_of_le (by rw[<-HL.o];omega);have Gk:=Tv.o;rw[Pj]at Gk;have HX:=Fh (show MG O w μ' _ from by rw[<-Fk Gk];exact IM.o.mg);clear Pj Gk;go_wp2_with fail
   try rw[Exit.noGoto_ret]
   go_ret;exact⟨⟨_,rfl⟩,HX.o⟩
end
section
variable{O:av}{μ:Mm}{w:World}
theorem DM(h:ao O μ w)(fr tw:Nat)(μ':Mm)(hf:fr<4294967296)(ht:tw<4294967296)(hv:oK fr tw μ=some μ'):Calls prog 114 #[.pointer (some ⟨O.mb,0,none⟩),.int .i64 (fr:Int),.int .i64 (tw:Int)] w λe w'=>(∃n:Int,e= .returned (.tuple #[.int .i64 n,.int .i64 0]))/\MG O w μ' w':=by
 unfold oK at hv;obtain⟨q,h1,F6⟩:=Fi hv;obtain⟨b,er⟩:=q;dsimp only at F6;by_cases hq:er≠0\/b.tag=0
 ·rw[if_pos hq]at F6;cases F6
 rw[if_neg hq]at F6;have he:er=0/\b.tag≠0:=by omega
 obtain⟨_,h2,F0⟩:=Fi F6;obtain⟨p,h3,GM⟩:=Fi F0;obtain⟨m1,h4,JF⟩:=Fi GM;obtain⟨m2,h5,Lk⟩:=Fi JF;obtain⟨m3,h6,NG⟩:=Fi Lk;obtain⟨m4,h7,h8⟩:=Fi NG;have hz:=bu h.ok;have FE:=Fh (MG.refl h);have HC:=Fh (aD h);have Zy:=λW (hg:MG O w μ W)=>jb μ.Fq μ.slots W hg.has.env.Hk h.ok;obtain⟨Z,hZ⟩:=Fp (br μ.Fq μ.slots);rw[<-hZ]at Zy hz;have LW:=Fh Zy;have z0:((Z:Int)==0)=false:=by rw[Fo];omega
 have Gw:=λW (hg:MG O w μ W)=>yv hg.has fr b er hf h1;simp only [decide_eq_true he]at Gw;have GF:=λW (hg:MG O w μ W)=>Cg hg.has tw b.Ft ht h2;have RH:=Fh GF;have PD:=λW (hg:MG O w μ W)=>xa hg.has fr tw b p m1 h3 h4;have HIM:=Fh (λW (hg:MG O w m2 W)=>DD hg.has fr tw m3 hf ht h6);have Uw:=Fh (λW (hg:MG O w m4 W)=>pc hg.has fr μ' h8);have UI:=λW (hg:MG O w μ W)=>(⟨hg.alloc _,Whole.new W _ _,h.Fu hg.kept.size⟩:BG O w W.heap.size fr b μ (W.alloc (.cells (JV O.mb fr b) 259)));unfold JV at Gw PD UI;have Gn:=Fh Gw;have HCP:=Fh PD;have QV:=Fh UI;have HH:=Fh h;obtain⟨k,hk⟩:=Fp b.tag;have H5:=Fh h5;have H7:=Fh h7;have HE:=Fh he;clear h hv F6 F0 GM JF Lk NG h1 h2 h3 h4 h5 h6 h7 h8 Zy Gw GF PD UI hz hZ hq hk he;by_cases t2:b.tag=2
 ·have h5:=H5.o;rw[if_pos t2]at h5;obtain⟨lv,h9,Ta⟩:=Fi h5;have h7:=H7.o;rw[if_neg (by omega)]at h7;obtain rfl:m3=m4:=Fk h7;have hrn:=λW (hg:MG O w m1 W)=>vd hg.has fr tw b lv m2 ht h9 Ta;unfold JV at hrn;have HRN:=Fh hrn;have c2:((b.tag:Int)==2)=true:=by rw[t2];rfl
  have c1:((b.tag:Int)==1)=false:=by rw[t2];rfl
  clear h5 h7 h9 Ta hrn t2;go_in;go_wp2_with fail;refine HC.o.mono ?_;rintro e w1⟨rfl,hb⟩;have FA:=Fh (FE.o.below hb);clear hb;go_wp2_with fail;refine(LW.o _ FA.o).mono ?_;rintro e w2⟨rfl,hb⟩;have FK:=Fh (FA.o.below hb);clear hb;go_wp2_with fail;refine(Gn.o _ FK.o).mono ?_;rintro e w3⟨rfl,hg⟩;have FT:=Fh (FK.o.trans hg);clear hg;have IM:=Fh (QV.o _ FT.o);obtain⟨_,y0,y1,y2,y3,y4,y5,y6,y7,y8,y9,Ic,Ie,Iw,Iq⟩:=IM.o.held;go_wp2_with fail;refine(RH.o _ IM.o.mg).mono ?_;rintro e w5⟨rfl,hg⟩;have Mi:=Fh (IM.o.on hg);clear hg y0 y1 y2 y3 y4 y5 y6 y7 y8 y9 Ic Ie Iw Iq;obtain⟨_,y0,y1,y2,y3,y4,y5,y6,y7,y8,y9,Ic,Ie,Iw,Iq⟩:=Mi.o.held;go_wp2_with fail;refine(HCP.o _ Mi.o.mg).mono ?_;rintro e w6⟨rfl,hg⟩;have Q8:=Fh (Mi.o.on hg);clear hg y0 y1 y2 y3 y4 y5 y6 y7 y8 y9 Ic Ie Iw Iq;obtain⟨_,y0,y1,y2,y3,y4,y5,y6,y7,y8,y9,Ic,Ie,Iw,Iq⟩:=Q8.o.held;go_wp2_with fail;refine(HRN.o _ Q8.o.mg).mono ?_;rintro e w7⟨⟨_,rfl⟩,hg⟩;have OH:=Fh (Q8.o.on hg);clear hg y0 y1 y2 y3 y4 y5 y6 y7 y8 y9 Ic Ie Iw Iq;obtain⟨_,y0,y1,y2,y3,y4,y5,y6,y7,y8,y9,Ic,Ie,Iw,Iq⟩:=OH.o.held;go_wp2_with fail;refine(HIM.o _ OH.o.mg).mono ?_;rintro e w8⟨rfl,hg⟩;have Qu:=Fh (OH.o.on hg);clear hg y0 y1 y2 y3 y4 y5 y6 y7 y8 y9 Ic Ie Iw Iq;obtain⟨_,y0,y1,y2,y3,y4,y5,y6,y7,y8,y9,Ic,Ie,Iw,Iq⟩:=Qu.o.held;go_wp2_with fail;refine(Uw.o _ Qu.o.mg).mono ?_;rintro e w9⟨rfl,hg⟩;have WS:=Fh (Qu.o.on hg);clear hg y0 y1 y2 y3 y4 y5 y6 y7 y8 y9 Ic Ie Iw Iq;obtain⟨_,y0,y1,y2,y3,y4,y5,y6,y7,y8,y9,Ic,Ie,Iw,Iq⟩:=WS.o.held;clear y0 y1 y2 y3 y4 y5 y6 y7 y8 y9 Ic Ie Iw Iq;go_wp2_with fail
  try rw[Exit.noGoto_ret]
  go_ret2;exact⟨⟨_,rfl⟩,WS.o.mg⟩
 ·have h5:=H5.o;rw[if_neg t2]at h5;obtain rfl:m1=m2:=Fk h5;have c2:((b.tag:Int)==2)=false:=by rw[Fo];omega
  by_cases t1:b.tag=1
  ·have h7:=H7.o;rw[if_pos t1]at h7;have Wn:=Fh (λW (hg:MG O w m3 W)=>Ci hg.has fr tw m4 hf ht h7);have c1:((b.tag:Int)==1)=true:=by rw[t1];rfl
   clear h5 h7 t1 t2;go_in;go_wp2_with fail;refine HC.o.mono ?_;rintro e w1⟨rfl,hb⟩;have FA:=Fh (FE.o.below hb);clear hb;go_wp2_with fail;refine(LW.o _ FA.o).mono ?_;rintro e w2⟨rfl,hb⟩;have FK:=Fh (FA.o.below hb);clear hb;go_wp2_with fail;refine(Gn.o _ FK.o).mono ?_;rintro e w3⟨rfl,hg⟩;have FT:=Fh (FK.o.trans hg);clear hg;have IM:=Fh (QV.o _ FT.o);obtain⟨_,y0,y1,y2,y3,y4,y5,y6,y7,y8,y9,Ic,Ie,Iw,Iq⟩:=IM.o.held;go_wp2_with fail;refine(RH.o _ IM.o.mg).mono ?_;rintro e w5⟨rfl,hg⟩;have Mi:=Fh (IM.o.on hg);clear hg y0 y1 y2 y3 y4 y5 y6 y7 y8 y9 Ic Ie Iw Iq;obtain⟨_,y0,y1,y2,y3,y4,y5,y6,y7,y8,y9,Ic,Ie,Iw,Iq⟩:=Mi.o.held;go_wp2_with fail;refine(HCP.o _ Mi.o.mg).mono ?_;rintro e w6⟨rfl,hg⟩;have Q8:=Fh (Mi.o.on hg);clear hg y0 y1 y2 y3 y4 y5 y6 y7 y8 y9 Ic Ie Iw Iq;obtain⟨_,y0,y1,y2,y3,y4,y5,y6,y7,y8,y9,Ic,Ie,Iw,Iq⟩:=Q8.o.held;go_wp2_with fail;refine(HIM.o _ Q8.o.mg).mono ?_;rintro e w7⟨rfl,hg⟩;have OH:=Fh (Q8.o.on hg);clear hg y0 y1 y2 y3 y4 y5 y6 y7 y8 y9 Ic Ie Iw Iq;obtain⟨_,y0,y1,y2,y3,y4,y5,y6,y7,y8,y9,Ic,Ie,Iw,Iq⟩:=OH.o.held;go_wp2_with fail;refine(Wn.o _ OH.o.mg).mono ?_;rintro e w8⟨rfl,hg⟩;have Qu:=Fh (OH.o.on hg);clear hg y0 y1 y2 y3 y4 y5 y6 y7 y8 y9 Ic Ie Iw Iq;obtain⟨_,y0,y1,y2,y3,y4,y5,y6,y7,y8,y9,Ic,Ie,Iw,Iq⟩:=Qu.o.held;go_wp2_with fail;refine(Uw.o _ Qu.o.mg).mono ?_;rintro e w9⟨rfl,hg⟩;have WS:=Fh (Qu.o.on hg);clear hg y0 y1 y2 y3 y4 y5 y6 y7 y8 y9 Ic Ie Iw Iq;obtain⟨_,y0,y1,y2,y3,y4,y5,y6,y7,y8,y9,Ic,Ie,Iw,Iq⟩:=WS.o.held;clear y0 y1 y2 y3 y4 y5 y6 y7 y8 y9 Ic Ie Iw Iq;go_wp2_with fail
   try rw[Exit.noGoto_ret]
   go_ret2;exact⟨⟨_,rfl⟩,WS.o.mg⟩
  ·have h7:=H7.o;rw[if_neg t1]at h7;obtain rfl:m3=m4:=Fk h7;have c1:((b.tag:Int)==1)=false:=by rw[Fo];omega
   clear h5 h7 t1 t2;go_in;go_wp2_with fail;refine HC.o.mono ?_;rintro e w1⟨rfl,hb⟩;have FA:=Fh (FE.o.below hb);clear hb;go_wp2_with fail;refine(LW.o _ FA.o).mono ?_;rintro e w2⟨rfl,hb⟩;have FK:=Fh (FA.o.below hb);clear hb;go_wp2_with fail;refine(Gn.o _ FK.o).mono ?_;rintro e w3⟨rfl,hg⟩;have FT:=Fh (FK.o.trans hg);clear hg;have IM:=Fh (QV.o _ FT.o);obtain⟨_,y0,y1,y2,y3,y4,y5,y6,y7,y8,y9,Ic,Ie,Iw,Iq⟩:=IM.o.held;go_wp2_with fail;refine(RH.o _ IM.o.mg).mono ?_;rintro e w5⟨rfl,hg⟩;have Mi:=Fh (IM.o.on hg);clear hg y0 y1 y2 y3 y4 y5 y6 y7 y8 y9 Ic Ie Iw Iq;obtain⟨_,y0,y1,y2,y3,y4,y5,y6,y7,y8,y9,Ic,Ie,Iw,Iq⟩:=Mi.o.held;go_wp2_with fail;refine(HCP.o _ Mi.o.mg).mono ?_;rintro e w6⟨rfl,hg⟩;have Q8:=Fh (Mi.o.on hg);clear hg y0 y1 y2 y3 y4 y5 y6 y7 y8 y9 Ic Ie Iw Iq;obtain⟨_,y0,y1,y2,y3,y4,y5,y6,y7,y8,y9,Ic,Ie,Iw,Iq⟩:=Q8.o.held;go_wp2_with fail;refine(HIM.o _ Q8.o.mg).mono ?_;rintro e w7⟨rfl,hg⟩;have OH:=Fh (Q8.o.on hg);clear hg y0 y1 y2 y3 y4 y5 y6 y7 y8 y9 Ic Ie Iw Iq;obtain⟨_,y0,y1,y2,y3,y4,y5,y6,y7,y8,y9,Ic,Ie,Iw,Iq⟩:=OH.o.held;go_wp2_with fail;refine(Uw.o _ OH.o.mg).mono ?_;rintro e w8⟨rfl,hg⟩;have Qu:=Fh (OH.o.on hg);clear hg y0 y1 y2 y3 y4 y5 y6 y7 y8 y9 Ic Ie Iw Iq;obtain⟨_,y0,y1,y2,y3,y4,y5,y6,y7,y8,y9,Ic,Ie,Iw,Iq⟩:=Qu.o.held;clear y0 y1 y2 y3 y4 y5 y6 y7 y8 y9 Ic Ie Iw Iq;go_wp2_with fail
   try rw[Exit.noGoto_ret]
   go_ret2;exact⟨⟨_,rfl⟩,Qu.o.mg⟩
end
section
variable{O:av}{μ:Mm}{w:World}
theorem ni(x:Sl)(w:World)(hs:Sz w)(hx:x.live<=ai x.Ft):Calls prog 203 #[.agg (LF x)] w λe w'=>e= .returned (.int .i64 (aR x:Nat))/\Below w.heap.size w w':=by
 obtain⟨w0,Fx⟩:=Fp (w.alloc (.cells (LF x) 176));have FM:Below w.heap.size w w0:=by rw[Fx];exact(Below.refl _ w).alloc (Fm _) _
 have Gd:Whole w0 w.heap.size 176 (LF x):=by rw[Fx];exact Whole.new w _ _
 have hle:=(bF x.Ft).1;obtain⟨y0,y1,y2,y3,y4⟩:=bt Gd;have Gu:Below w.heap.size w w0.drew/\w0.drew.cell? ⟨w.heap.size,0,none⟩=some (.int .i64 (x.Ft:Int))/\w0.drew.cell? ⟨w.heap.size,1,none⟩=some (.int .i64 (x.live:Int)):=⟨FM.drew,y0,y1⟩;have II:=Fh (λW (hb:Below w.heap.size w W)=>fE x.Ft W (hs.below hb));unfold aR;obtain⟨n,hn⟩:=Fp (ai x.Ft);rw[<-hn]at hx hle II⊢;obtain⟨z,hz⟩:=Fp (n-x.live);rw[<-hz];have q1:IntKind.i64.wrap ((n:Int)-(x.live:Int))=(z:Int):=by rw[IntKind.wrap_i64];omega
 have GW:=Fh FM;clear FM Gd hs y2 y3 y4 hn hz;unfold LF at Fx⊢;go_in;go_upto_region 1 with fail;rw[<-Fx];clear Fx
 go_region_held3 (λw'=>Below w.heap.size w w'/\w'.cell? ⟨w.heap.size,0,none⟩=some (.int .i64 (x.Ft:Int))/\w'.cell? ⟨w.heap.size,1,none⟩=some (.int .i64 (x.live:Int)))
  (first|exact Gu|assumption)
  (first
   |((go_at_call 121;refine(II.o _ (And.left (by assumption))).mono ?_);rintro e w2 ⟨rfl,rfl⟩))
 all_goals
  have HX:Hid (Below w.heap.size w _):=Fh (And.left (by assumption));clear Gu;go_wp2;go_ret;exact⟨rfl,HX.o⟩
theorem Ai(h:ao O μ w)(s:Nat)(lv:List Nat)(h1:kJ s μ=some lv)(hv:kY μ lv=some ()):Calls prog 205 #[.pointer (some ⟨O.mb,0,none⟩),.int .i64 (s:Int)] w λe w'=>e= .returned (.bool true)/\MG O w μ w':=by
 obtain⟨F8,IX⟩:=h.GX;obtain⟨WT,Rc⟩:=fs h1;have RS:Hid (∀x∈lv,x<4294967296):=Fh λx hx=>by have:=Rc x hx;omega
 have HLV:=Fh (pC h s lv h1);have HV:=Fh hv;have HH:=Fh h;obtain⟨L,hL⟩:=Fp lv.length;have WO:L<=32:=by omega
 have HL:=Fh hL;clear h h1 hv WT Rc F8 IX hL;go_in;go_wp2_with fail
 try go_step3
 try go_wp2_with fail
 refine HLV.o.mono ?_;rintro e w1⟨v1,rfl,NH,hg⟩;obtain⟨A3,c3,F6,hcell⟩:=NH.cell;subst F6;have FA:=Fh hg;have J5:Hid (eU A3 lv (.slice none 0 0) w.heap.size w1):=Fh ⟨hcell,λa e=>by
  have h1:=aF NH (k:=a.block) (by rw[e];rfl);exact⟨h1.1,h1.2,by simp[Value.ownBlock]⟩⟩
 rw[<-HL.o];clear hg NH hcell;go_wp2_with fail
 go_loopw [4,6,7,8,13] (λ_ _ _ _ UJ W=>∃j:Nat,j<=L/\UJ= .int .i64 j/\Hid (MG O w μ W)/\Hid (eU A3 lv (.slice none 0 0) w.heap.size W)/\Hid (kY μ (lv.drop j)=some ())) (λ_ _ _ _ UJ W=>match UJ with| .int _ m=>L-m.toNat|_=>0)
 case atStart=>exact⟨0,Nat.zero_le _,rfl,FA,J5,HV⟩
 case round=>
  obtain⟨j,hj,rfl,FW,Lc,Tv⟩:=hrel;by_cases K0:j<L
  ·have G1:=HL.o;obtain⟨x,ha⟩:∃a,lv[j]? =some a:=⟨_,Fl (by omega)⟩;obtain⟨g,o,rfl,Lr⟩:=Lc.o.1 j x ha;have hdr:lv.drop j=x::lv.drop (j+1):=by
    rw[List.drop_eq_getElem_cons (by omega)];rw[Fl (by omega)]at ha;rw[Fk ha]
   have Gk:=Tv.o;rw[hdr]at Gk;obtain⟨_,Jm,IH⟩:=Fi Gk;obtain⟨q,Jw,Mo⟩:=Fi Jm;obtain⟨b,er⟩:=q;dsimp only at Mo;by_cases hc:er=0/\b.tag≠0
   case neg=>rw[if_neg hc]at Mo;cases Mo
   obtain⟨rfl,htag⟩:=hc;have I7:x<4294967296:=RS.o x (List.mem_of_getElem? ha);have Gw:=gy FW.o.has x b 0 I7 Jw;unfold G0 at Gw;simp only [show((0:Nat):Int)=0 from rfl]at Gw;have HM:=Fh Gw;have Up:=Fh IH;have c1:((b.tag:Int)==0)=false:=by rw[Fo];omega
   clear ha hdr Gk Jm IH Jw Mo I7 G1 Gw htag;go_wp2_with fail;refine HM.o.mono ?_;rintro e w5⟨rfl,hg⟩;have Gj:=Fh (FW.o.trans hg);have QP:=Fh (Lc.o.kept hg.kept λa e=>HH.o.Fu (Lc.o.2 a e).1);clear hg;go_wp2_with fail;exact⟨⟨j+1,by omega,by go_num,Fh (Gj.o.alloc _),Fh (QP.o.kept ((aa.refl (λ_=>False) w5).alloc _) λ_ _ h=>h),Up⟩,by simp;omega⟩
  ·go_wp2_with fail
   try rw[Exit.noGoto_ret]
   go_ret;exact⟨rfl,FW.o⟩
theorem DN(h:ao O μ w)(s b1 b2:Nat)(x:Sl)(c1:w.cell? ⟨b1,0,none⟩=some (.pointer (some ⟨O.mb,0,none⟩)))(c2:w.cell? ⟨b2,0,none⟩=some (.int .i64 (s:Int)))(hv:dR s μ=some x)(hx:x.live<=ai x.Ft):
  Calls prog 210 #[.pointer (some ⟨b1,0,none⟩),.pointer (some ⟨b2,0,none⟩)] w λe w'=>e= .returned (.bool (decide (0<aR x)))/\MG O w μ w':=by
 have Gw:=gx h s x hv;have Ki:=λW (hg:MG O w μ W)=>ni x W hg.has.env.Hk hx;unfold LF at Gw Ki;have Gn:=Fh Gw;obtain⟨q,hq⟩:=Fp (aR x);rw[<-hq];simp only [<-hq]at Ki;have Tt:=Fh Ki;have FE:=Fh (MG.refl h);obtain⟨d,hd⟩:=Fp (decide (0<q));rw[<-hd];have d1:decide ((q:Int)>0)=d:=by rw[hd,Bool.eq_iff_iff];simp
 have d2:decide (0<(q:Int))=d:=by rw[hd,Bool.eq_iff_iff];simp
 have d3:decide (0<q)=d:=hd.symm;clear h hv hx Gw Ki hq hd;go_in;go_wp2_with fail;refine Gn.o.mono ?_;rintro e w1⟨rfl,hg⟩;have FA:=Fh (FE.o.trans hg);clear hg;go_wp2_with fail;refine(Tt.o _ (FA.o.alloc _)).mono ?_;rintro e w2⟨rfl,hb⟩;have FK:=Fh ((FA.o.alloc _).below hb);clear hb;go_wp2;go_ret;exact⟨rfl,FK.o⟩
end
end Go.Proofs.YtifkphcaelafjaaGreatDoor
