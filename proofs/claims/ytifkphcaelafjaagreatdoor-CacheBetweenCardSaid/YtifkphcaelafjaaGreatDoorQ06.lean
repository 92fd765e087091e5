/-
  Lemmas on the way to the row. No condition beyond their own.
-/
import Derived.ScopeJumps
import Derived.Test.YtifkphcaelafjaaGreatDoorQ05
set_option maxHeartbeats 25600000
set_option maxRecDepth 100000
set_option linter.unusedVariables false
set_option linter.unusedSimpArgs false
namespace Go.Proofs.YtifkphcaelafjaaGreatDoor
open Tryz
open Go.RowKit Go.Colm Go.FC Go.Maps
structure PG(O:av)(w:World)(pb s a:Nat)(x:Sl)(μ:Mm)(W:World):Prop where
 has:ao O μ W
 kept:aa (λk=>au O k\/k=pb) w W
 pt:Whole W pb 245 (Ha O.mb s a x)
section
variable{O:av}{μ:Mm}{w:World}
theorem ao.other{W:World}(h:ao O μ W){pb:Nat}{T:TypeId}{cs:Array Value}(hp:Whole W pb T cs)(h1:T≠121)(h2:T≠267)(h3:T≠188)(h4:T≠5)(h5:∀x,cs[0]?≠some (.int .i64 x)):¬eX O pb:=by
 rintro(e|e|e|e|e|e)
 ·exact aE hp h.m h1 e
 ·obtain⟨n,hn⟩:=h.wt;exact aE hp hn h2 e
 ·exact aE hp h.ar h3 e
 ·obtain⟨c,hc,_⟩:=h.JP;exact aE hp hc h4 e
 ·obtain⟨c,hc,_⟩:=h.ki;exact aE hp hc h4 e
 ·obtain⟨x,hx⟩:=h.env.int e;rw[hp.cell 0]at hx;exact h5 x hx
theorem ye{k:Nat}(h:au O k):eX O k:=by
 rcases h with h|h|h
 ·exact .inr (.inl h)
 ·exact .inr (.inr (.inr (.inl h)))
 ·exact .inr (.inr (.inr (.inr (.inl h))))
theorem BJ{pb s a:Nat}{x:Sl}{W:World}(h:ao O μ W)(hp:Whole W pb 245 (Ha O.mb s a x)):¬eX O pb:=
 h.other hp (by decide) (by decide) (by decide) (by decide) (λy e=>by unfold Ha at e;simp at e)
variable{pb s a:Nat}{x:Sl}{W:World}
theorem PG.refl(h:ao O μ w)(hp:Whole w pb 245 (Ha O.mb s a x)):PG O w pb s a x μ w:=⟨h,aa.refl _ _,hp⟩
theorem PG.mg{μ':Mm}{W2:World}(h:PG O w pb s a x μ W)(k:MG O W μ' W2):PG O w pb s a x μ' W2:=
 ⟨k.has,h.kept.trans (k.kept.mono λ_ _ e=> .inl e),k.kept.whole h.pt λe=>BJ h.has h.pt (ye e)⟩
theorem PG.below{W2:World}(h:PG O w pb s a x μ W)(k:Below W.heap.size W W2):PG O w pb s a x μ W2:=h.mg ((MG.refl h.has).below k)
theorem PG.drew(h:PG O w pb s a x μ W):PG O w pb s a x μ W.drew:=h.below (Below.refl _ W).drew
theorem PG.trans{μ':Mm}{x':Sl}{W2:World}(h:PG O w pb s a x μ W)(k:PG O W pb s a x' μ' W2):PG O w pb s a x' μ' W2:=⟨k.has,h.kept.trans k.kept,k.pt⟩
theorem PG.put(h:PG O w pb s a x μ W)(i:Nat)(v:Value)(x':Sl)(he:(Ha O.mb s a x).setIfInBounds i v=Ha O.mb s a x'):PG O w pb s a x' μ (W.setCell ⟨pb,i,none⟩ v):=by
 have hk:aa (λk=>k=pb) W (W.setCell ⟨pb,i,none⟩ v):=(aa.refl (λk=>k=pb) W).setCell (.inl rfl) _;exact⟨h.has.kept hk λk hb e=>BJ h.has h.pt (by rw[<-e];exact hb),h.kept.trans (hk.mono λ_ _ e=> .inr e),by have:=h.pt.put i v;rw[he]at this;exact this⟩
theorem PG.of_mg{P:Program}{f:FuncId}{args:Array Value}{V:Value}{μ':Mm}(hs:PG O w pb s a x μ W)(h:Calls P f args W λe w'=>e= .returned V/\MG O W μ' w'):Calls P f args W λe w'=>∃u,e= .returned u/\u=V/\PG O w pb s a x μ' w':=h.mono λe w' hq=>⟨_,hq.1,rfl,hs.mg hq.2⟩
theorem PG.cells(h:PG O w pb s a x μ W):W.cell? ⟨pb,0,none⟩=some (.pointer (some ⟨O.mb,0,none⟩))/\W.cell? ⟨pb,1,none⟩=some (.int .i64 (s:Int))/\W.cell? ⟨pb,2,none⟩=some (.int .i64 (a:Int))/\W.cell? ⟨pb,3,none⟩=some (.int .i64 (x.Ft:Int))/\
  W.cell? ⟨pb,4,none⟩=some (.int .i64 (x.live:Int))/\W.cell? ⟨pb,5,none⟩=some (.int .u32 (x.free:Int))/\W.cell? ⟨pb,6,none⟩=some (.int .i64 (x.next:Int))/\W.cell? ⟨pb,7,none⟩=some (.int .i64 (x.prev:Int)):=bg h.pt
theorem PG.VL{P:Program}{f:FuncId}{args:Array Value}{V:Value}{μ':Mm}(hs:PG O w pb s a x μ W)(h:Calls P f args W λe w'=>e= .returned V/\MG O W μ' w'):Calls P f args W λe w'=>e= .returned V/\PG O w pb s a x μ' w':=h.mono λe w' hq=>⟨hq.1,hs.mg hq.2⟩
theorem PG.Kh{P:Program}{f:FuncId}{args:Array Value}{V:Value}(hs:PG O w pb s a x μ W)(h:Calls P f args W λe w'=>e= .returned V/\Below W.heap.size W w'):Calls P f args W λe w'=>e= .returned V/\PG O w pb s a x μ w':=h.mono λe w' hq=>⟨hq.1,hs.below hq.2⟩
theorem PG.held(h:PG O w pb s a x μ W):aa (λk=>au O k\/k=pb) w W/\W.cell? ⟨pb,0,none⟩=some (.pointer (some ⟨O.mb,0,none⟩))/\W.cell? ⟨pb,1,none⟩=some (.int .i64 (s:Int))/\W.cell? ⟨pb,2,none⟩=some (.int .i64 (a:Int))/\W.cell? ⟨pb,3,none⟩=some (.int .i64 (x.Ft:Int))/\
  W.cell? ⟨pb,4,none⟩=some (.int .i64 (x.live:Int))/\W.cell? ⟨pb,5,none⟩=some (.int .u32 (x.free:Int))/\W.cell? ⟨pb,6,none⟩=some (.int .i64 (x.next:Int))/\W.cell? ⟨pb,7,none⟩=some (.int .i64 (x.prev:Int)):=⟨h.kept,h.cells⟩
theorem l9(h:ao O μ w)(s a:Nat)(x:Sl)(μ':Mm)(hs:s<μ.Fq)(hv:gS s x.Ft x.live x.free μ=some μ'):Calls prog 196 #[.agg (Ha O.mb s a x)] w λe w'=>e= .returned (.tuple #[])/\MG O w μ' w':=by
 obtain⟨w0,Fx⟩:=Fp (w.alloc (.cells (Ha O.mb s a x) 245));have FM:Below w.heap.size w w0:=by rw[Fx];exact(Below.refl _ w).alloc (Fm _) _
 have Gd:Whole w0 w.heap.size 245 (Ha O.mb s a x):=by rw[Fx];exact Whole.new w _ _
 have GW:=Fh FM;have HS:=Fh (Dx (h.below FM) s x.Ft x.live x.free μ' hs hv);obtain⟨x0,x1,x2,x3,x4,x5,x6,x7⟩:=bg Gd;clear h hv hs Gd FM;unfold Ha at Fx⊢;go_in;go_upto_region 1 with fail;rw[<-Fx];clear Fx;go_wp2_with fail;refine HS.o.mono ?_;rintro e w1⟨rfl,hg⟩;have HG:=Fh hg;clear hg;go_wp2;go_end0;exact⟨rfl,MG.after GW.o HG.o⟩
theorem uD(h:ao O μ w)(pb s a b:Nat)(x:Sl)(μ':Mm)(hp:Whole w pb 245 (Ha O.mb s a x))(hx:x.free<4294967296)(hb:b<4294967296)(hv:qS b x.free μ=some μ'):
  Calls prog 195 #[.pointer (some ⟨pb,0,none⟩),.int .i64 (b:Int)] w λe w'=>e= .returned (.tuple #[])/\PG O w pb s a {x with free:=b} μ' w':=by
 have Gu:PG O w pb s a x μ w.drew:=(PG.refl h hp).drew;have Jg:qC {name:=x.free}:=⟨(show(0:Nat)<256 by decide),(show(0:Nat)<256 by decide),(show(0:Nat)<256 by decide),(show(0:Nat)<256 by decide),hx,(show(0:Nat)<4294967296 by decide),(show(0:Nat)<4294967296 by decide),(show(0:Nat)<18446744073709551616 by decide),(show(0:Nat)<65536 by decide),(show(0:Nat)<65536 by decide),(show(0:Nat)<4294967296 by decide),(show(0:Nat)<4294967296 by decide)⟩;have Mn:=λW (hs:PG O w pb s a x μ W)=>hs.of_mg (oh hs.has b {name:=x.free} μ' hb Jg (Nat.zero_le 1) hv);change∀W,PG O w pb s a x μ W->Calls prog 171 #[.pointer (some ⟨O.mb,0,none⟩),.int .i64 (b:Int),.agg #[.int .i64 0,.int .i64 0,.bool false,.int .i64 0,.int .u32 (x.free:Int),.int .u32 0,.int .u32 0,.int .u32 0,.int .u64 0,.int .u16 0,.int .i64 0,.int .u32 0]] W _ at Mn;have XW:=Fh Mn;obtain⟨x0,x1,x2,x3,x4,x5,x6,x7⟩:=bg hp;have RI:IntKind.u32.wrap (b:Int)=(b:Int):=by rw[IntKind.wrap_u32];omega
 clear h hp hv Jg Mn;go_in;go_wp2_with fail
 go_region_law (first
  |(refine aX rfl 171 #[.pointer (some ⟨O.mb,0,none⟩),.int .i64 (b:Int),.agg #[.int .i64 0,.int .i64 0,.bool false,.int .i64 0,.int .u32 (x.free:Int),.int .u32 0,.int .u32 0,.int .u32 0,.int .u64 0,.int .u16 0,.int .i64 0,.int .u32 0]] ?_ _ (XW.o _ (by assumption)) ?_
    ·(go_simp;done)
    rintro v5 w5⟨rfl,Ik⟩;have Qr:=Fh Ik;have f5:=Ik.pt.frozen 5;obtain⟨y0,y1,y2,y3,y4,y5,y6,y7⟩:=Ik.cells))
 all_goals
  go_wp2;go_end0;exact⟨rfl,Qr.o.put 5 _ _ rfl⟩
theorem zK{s c l f:Nat}{μ':Mm}(h:gS s c l f μ=some μ'):c<=9:=by
 unfold gS at h;split at h
 ·assumption
 ·cases h
theorem yf(h:ao O μ w)(pb s a at_:Nat)(x:Sl)(μ':Mm)(hp:Whole w pb 245 (Ha O.mb s a x))(hx:x.free<4294967296)(hl:x.live<65536)(hs:s<μ.Fq)(hv:tR s x μ=some (at_,μ')):
  Calls prog 293 #[.pointer (some ⟨pb,0,none⟩)] w λe w'=>e= .returned (.int .i64 (at_:Int))/\ao O μ' w'/\aa (λk=>au O k\/k=pb) w w':=by
 unfold tR at hv;obtain⟨f,h1,hv⟩:=Fi hv;obtain⟨m1,h2,hv⟩:=Fi hv;obtain⟨m2,h3,hv⟩:=Fi hv;obtain⟨m3,h4,hv⟩:=Fi hv;obtain⟨m4,h5,hv⟩:=Fi hv;obtain⟨rfl,rfl⟩:x.free=at_/\m4=μ':=by
  have:=Fk hv;exact⟨congrArg Prod.fst this,congrArg Prod.snd this⟩
 have IY:=zK h4;have Uc:f<4294967296:=jx (W:=4) h1 (by omega) (by decide);have Y5:Hid (PG O w pb s a x μ w):=Fh (PG.refl h hp);have O4:=Fh (eF h x.free 4 f hx (by omega) h1);have LG:=Fh (λW (hh:ao O μ W)=>cO hh x.free 4 0 m1 hx (by omega) h2);have IA:=Fh (λx' W (hs:PG O w pb s a x' m1 W)=>hs.Kh (ju O.mb s a x' W hs.has.env.Hk));have Td:=Fh (λx' W (hs:PG O w pb s a x' m1 W)=>hs.VL (jc hs.has x.free (ae x.Ft) 5 m2 h3));have s1:=(uB h2).1;have s2:=(fh h3).1;have s3:=(fP h4).1;have OA:=λW (hh:ao O m2 W)=>l9 hh s a {x with free:=f,live:=x.live+1} m3 (by omega) h4;unfold Ha at OA;simp only [show((x.live+1:Nat):Int)=(x.live:Int)+1 from rfl]at OA;have NB:=Fh OA;clear OA;have Wn:Hid (f=0->∀W,ao O m3 W->Calls prog 212 #[.pointer (some ⟨O.mb,0,none⟩),.int .i64 (x.Ft:Int),.int .i64 (s:Int)] W λe w'=>e= .returned (.int .i64 0)/\MG O W m4 w'):=Fh (λh0 W hh=>by
  rw[if_pos h0]at h5;exact ol hh x.Ft s m4 (by omega) (by omega) h5 (λq W2 hg hq=>cL hg.has x.Ft s q (by omega) (by have:=h.cf;omega) hq) (λq hq=>cJ hq (by omega)))
 have H5:=Fh h5;obtain⟨sz,F8⟩:=Fp (ae x.Ft);have Sw:∀x':Sl,x'.Ft=x.Ft->ae x'.Ft=sz:=λx' e=>by rw[e,F8]
 rw[<-F8]at Td;have r1:IntKind.u32.wrap (f:Int)=(f:Int):=by rw[IntKind.wrap_u32];omega
 have r2:IntKind.i64.wrap (x.free:Int)=(x.free:Int):=by rw[IntKind.wrap_i64];omega
 have HSZ1:Hid (∀W,PG O w pb s a {x with free:=f} m1 W->Calls prog 192 #[.agg (Ha O.mb s a {x with free:=f})] W λe w'=>e= .returned (.int .i64 (sz:Int))/\PG O w pb s a {x with free:=f} m1 w'):=Fh (λW hs=>by rw[F8];exact IA.o _ W hs);have HMK1:=Fh (λW=>Td.o {x with free:=f} W);obtain⟨x0,x1,x2,x3,x4,x5,x6,x7⟩:=bg hp;have Pr:IntKind.i64.wrap ((x.live:Int)+1)=(x.live:Int)+1:=by rw[IntKind.wrap_i64];omega
 clear h hp hv h1 h2 h3 h4 h5 F8 Sw IA Td s1 s2 s3 hs;unfold Ha at HSZ1;go_in;go_wp2_with fail;refine O4.o.mono ?_;rintro e w1⟨rfl,hg⟩;have Tf:=Fh (Y5.o.mg hg);clear hg;clear x0 x1 x2 x3 x4 x5 x6 x7;obtain⟨x0,x1,x2,x3,x4,x5,x6,x7⟩:=Tf.o.cells;have f5:=Tf.o.pt.frozen 5;obtain⟨w2,FL⟩:=Fp (w1.setCell ⟨pb,5,none⟩ (.int .u32 (f:Int)));have Mk:=Fh (Tf.o.put 5 (.int .u32 (f:Int)) ({x with free:=f}) rfl);rw[<-FL]at Mk;go_upto_region 3 with fail;rw[<-FL];clear FL f5;clear x0 x1 x2 x3 x4 x5 x6 x7;obtain⟨x0,x1,x2,x3,x4,x5,x6,x7⟩:=Mk.o.cells;go_wp2_with fail;refine(LG.o _ Mk.o.has).mono ?_;rintro e w3⟨rfl,hg⟩;have Pt:=Fh (Mk.o.mg hg);clear hg;clear x0 x1 x2 x3 x4 x5 x6 x7;obtain⟨x0,x1,x2,x3,x4,x5,x6,x7⟩:=Pt.o.cells;have Il:=Pt.o.drew;go_wp2_with fail
 go_region_held3 (λw'=>aa (λk=>au O k\/k=pb) w w'/\w'.cell? ⟨pb,0,none⟩=some (.pointer (some ⟨O.mb,0,none⟩))/\w'.cell? ⟨pb,1,none⟩=some (.int .i64 (s:Int))/\w'.cell? ⟨pb,2,none⟩=some (.int .i64 (a:Int))/\w'.cell? ⟨pb,3,none⟩=some (.int .i64 (x.Ft:Int))/\w'.cell? ⟨pb,4,none⟩=some (.int .i64 (x.live:Int))/\w'.cell? ⟨pb,5,none⟩=some (.int .u32 (f:Int))/\w'.cell? ⟨pb,6,none⟩=some (.int .i64 (x.next:Int))/\w'.cell? ⟨pb,7,none⟩=some (.int .i64 (x.prev:Int)))
  (first|assumption|exact PG.held (by assumption))
  (first
   |((go_at_call 192;refine(HSZ1.o _ (by assumption)).mono ?_);rintro e w5 ⟨rfl,Ik⟩)
   |((go_at_call 193;refine(HMK1.o _ (by assumption)).mono ?_);rintro e w6 ⟨rfl,OB⟩))
 have Kg:Hid (PG O w pb s a {x with free:=f} m2 _):=Fh (by assumption);clear x0 x1 x2 x3 x4 x5 x6 x7;obtain⟨x0,x1,x2,x3,x4,x5,x6,x7⟩:=Kg.o.cells
 all_goals
  clear Il;have f4:=Kg.o.pt.frozen 4;obtain⟨w7,Li⟩:=Fp (w6.setCell ⟨pb,4,none⟩ (.int .i64 ((x.live:Int)+1)));have LI:=Fh (Kg.o.put 4 (.int .i64 ((x.live:Int)+1)) ({x with free:=f,live:=x.live+1}) rfl);rw[<-Li]at LI;go_upto_region 6 with fail;rw[<-Li];clear Li f4;clear x0 x1 x2 x3 x4 x5 x6 x7;obtain⟨x0,x1,x2,x3,x4,x5,x6,x7⟩:=LI.o.cells;go_wp2_with fail;refine(NB.o _ LI.o.has).mono ?_;rintro e w8⟨rfl,hg⟩;have O7:=Fh (LI.o.mg hg);clear hg;clear x0 x1 x2 x3 x4 x5 x6 x7;obtain⟨x0,x1,x2,x3,x4,x5,x6,x7⟩:=O7.o.cells;have H58:=H5.o;by_cases h0:f=0
  ·have c0:((f:Int)==0)=true:=by rw[h0];rfl
   have VK:=O7.o.drew;have HRM8:=Fh (λW (hs:PG O w pb s a {x with free:=f,live:=x.live+1} m3 W)=>hs.VL (Wn.o h0 W hs.has));clear h0 H58;go_wp2_with fail
   go_region_held3 (λw'=>aa (λk=>au O k\/k=pb) w w'/\w'.cell? ⟨pb,0,none⟩=some (.pointer (some ⟨O.mb,0,none⟩))/\w'.cell? ⟨pb,1,none⟩=some (.int .i64 (s:Int))/\w'.cell? ⟨pb,2,none⟩=some (.int .i64 (a:Int))/\w'.cell? ⟨pb,3,none⟩=some (.int .i64 (x.Ft:Int))/\w'.cell? ⟨pb,4,none⟩=some (.int .i64 ((x.live:Int)+1:Int))/\w'.cell? ⟨pb,5,none⟩=some (.int .u32 (f:Int))/\w'.cell? ⟨pb,6,none⟩=some (.int .i64 (x.next:Int))/\w'.cell? ⟨pb,7,none⟩=some (.int .i64 (x.prev:Int)))
    (first|assumption|exact PG.held (by assumption))
    (first
     |((go_at_call 212;refine(HRM8.o _ (by assumption)).mono ?_);rintro e w9 ⟨rfl,hs9⟩))
   have Q4:Hid (PG O w pb s a {x with free:=f,live:=x.live+1} m4 _):=Fh (by assumption);clear x0 x1 x2 x3 x4 x5 x6 x7;obtain⟨x0,x1,x2,x3,x4,x5,x6,x7⟩:=Q4.o.cells
   all_goals
    go_wp2;go_ret;exact⟨rfl,Q4.o.has,Q4.o.kept⟩
  ·have c0:((f:Int)==0)=false:=by rw[Fo];omega
   rw[if_neg h0]at H58;obtain rfl:=Fk H58;clear h0 H58;go_wp2;go_ret;exact⟨rfl,O7.o.has,O7.o.kept⟩
end
section
variable{O:av}{μ:Mm}{w:World}
theorem o6{c:Nat}(h:1<=c/\c<=9):32<=ae c/\ae c<=512/\2<=ai c/\1<=ae c*ai c/\ae c*ai c<=1024/\ae c*ai c+fA c=1024/\ae c%16=0:=by
 obtain⟨h1,h2⟩:=h;have:c=1\/c=2\/c=3\/c=4\/c=5\/c=6\/c=7\/c=8\/c=9:=by omega
 rcases this with rfl|rfl|rfl|rfl|rfl|rfl|rfl|rfl|rfl<;>decide
def Sl.none_:Sl:=⟨0,0,0,0,0⟩
theorem BK(h:ao O μ w)(pb s:Nat)(x:Sl)(μ':Mm)(hp:Whole w pb 245 (Ha O.mb s (ax μ s) x))(hc:1<=x.Ft/\x.Ft<=9)(hs:s<μ.Fq)(hv:qT s x μ=some μ'):
  Calls prog 197 #[.pointer (some ⟨pb,0,none⟩)] w λe w'=>e= .returned (.tuple #[])/\ao O μ' w'/\aa (λk=>au O k\/k=pb) w w':=by
 unfold qT at hv;obtain⟨a,ha⟩:=Fp (ax μ s);rw[<-ha]at hv hp;obtain⟨m1,h1,hv⟩:=Fi hv;obtain⟨m2,h2,hv⟩:=Fi hv;obtain⟨m3,h3,hv⟩:=Fi hv;obtain⟨m4,h4,h5⟩:=Fi hv;have s1:=(ta h1).1;have s2:=(fh h2).1;have s3:=(l7 h3).1;have s4:=(fP h4).1;have G5:=h.cf;have Y5:Hid (PG O w pb s a x μ w):=Fh (PG.refl h hp);obtain⟨nb,IJ⟩:=Fp (ae x.Ft*ai x.Ft);rw[<-IJ]at h1;have NV:1<=nb:=by rw[IJ];exact(o6 hc).2.2.2.1
 have Hb:=λx' m W (hs:PG O w pb s a x' m W)=>hs.Kh (k9 O.mb s a x' W hs.has.env.Hk);have II:Hid (∀W,PG O w pb s a x μ W->Calls prog 282 #[.agg (Ha O.mb s a x)] W λe w'=>e= .returned (.int .i64 (nb:Int))/\PG O w pb s a x μ w'):=Fh (λW hs=>by rw[IJ];exact Hb x μ W hs);have HZE:=Fh (λW (hs:PG O w pb s a x μ W)=>hs.VL (lL hs.has a nb 6 m1 NV h1));have Td:=Fh (λW (hs:PG O w pb s a x m1 W)=>hs.VL (jc hs.has a 1024 7 m2 h2));have Wn:=Fh (λW (hs:PG O w pb s a x m2 W)=>hs.VL (ol hs.has x.Ft s m3 (by omega) (by omega) h3 (λq W2 hg hq=>cL hg.has x.Ft s q (by omega) (by omega) hq) (λq hq=>cJ hq (by omega))));have OA:=λW (hh:ao O m3 W)=>l9 hh s a Sl.none_ m4 (by omega) h4;unfold Ha Sl.none_ at OA;have NB:=Fh OA;have Nu:=Fh (λW (hs:PG O w pb s a Sl.none_ m4 W)=>hs.VL (om hs.has 0 s μ' (by omega) (by omega) h5 (λc q W2 hc hg hq=>cL hg.has c s q hc (by omega) hq) (λq hq=>cJ hq (by omega))));have Gu:PG O w pb s a x μ w.drew:=Y5.o.drew;obtain⟨x0,x1,x2,x3,x4,x5,x6,x7⟩:=bg hp;clear h hp hv h1 h2 h3 h4 h5 IJ NV Hb ha OA G5;unfold Ha at II;go_in;go_wp2_with fail
 go_region_held3 (λw'=>aa (λk=>au O k\/k=pb) w w'/\w'.cell? ⟨pb,0,none⟩=some (.pointer (some ⟨O.mb,0,none⟩))/\w'.cell? ⟨pb,1,none⟩=some (.int .i64 (s:Int))/\w'.cell? ⟨pb,2,none⟩=some (.int .i64 (a:Int))/\w'.cell? ⟨pb,3,none⟩=some (.int .i64 (x.Ft:Int))/\w'.cell? ⟨pb,4,none⟩=some (.int .i64 (x.live:Int))/\w'.cell? ⟨pb,5,none⟩=some (.int .u32 (x.free:Int))/\w'.cell? ⟨pb,6,none⟩=some (.int .i64 (x.next:Int))/\w'.cell? ⟨pb,7,none⟩=some (.int .i64 (x.prev:Int)))
  (first|assumption|exact PG.held (by assumption))
  (first
   |((go_at_call 282;refine(II.o _ (by assumption)).mono ?_);rintro e w1 ⟨rfl,Nh⟩)
   |((go_at_call 75;refine(HZE.o _ (by assumption)).mono ?_);rintro e w2 ⟨rfl,IU⟩))
 have Mk:Hid (PG O w pb s a x m1 _):=Fh (by assumption);clear x0 x1 x2 x3 x4 x5 x6 x7;obtain⟨x0,x1,x2,x3,x4,x5,x6,x7⟩:=Mk.o.cells;have Il:=Mk.o.drew;go_wp2_with fail
 go_region_held3 (λw'=>aa (λk=>au O k\/k=pb) w w'/\w'.cell? ⟨pb,0,none⟩=some (.pointer (some ⟨O.mb,0,none⟩))/\w'.cell? ⟨pb,1,none⟩=some (.int .i64 (s:Int))/\w'.cell? ⟨pb,2,none⟩=some (.int .i64 (a:Int))/\w'.cell? ⟨pb,3,none⟩=some (.int .i64 (x.Ft:Int))/\w'.cell? ⟨pb,4,none⟩=some (.int .i64 (x.live:Int))/\w'.cell? ⟨pb,5,none⟩=some (.int .u32 (x.free:Int))/\w'.cell? ⟨pb,6,none⟩=some (.int .i64 (x.next:Int))/\w'.cell? ⟨pb,7,none⟩=some (.int .i64 (x.prev:Int)))
  (first|assumption|exact PG.held (by assumption))
  (first
   |((go_at_call 193;refine(Td.o _ (by assumption)).mono ?_);rintro e w3 ⟨rfl,Il⟩))
 have Pt:Hid (PG O w pb s a x m2 _):=Fh (by assumption);clear x0 x1 x2 x3 x4 x5 x6 x7;obtain⟨x0,x1,x2,x3,x4,x5,x6,x7⟩:=Pt.o.cells;have Nf:=Pt.o.drew;go_wp2_with fail
 go_region_held3 (λw'=>aa (λk=>au O k\/k=pb) w w'/\w'.cell? ⟨pb,0,none⟩=some (.pointer (some ⟨O.mb,0,none⟩))/\w'.cell? ⟨pb,1,none⟩=some (.int .i64 (s:Int))/\w'.cell? ⟨pb,2,none⟩=some (.int .i64 (a:Int))/\w'.cell? ⟨pb,3,none⟩=some (.int .i64 (x.Ft:Int))/\w'.cell? ⟨pb,4,none⟩=some (.int .i64 (x.live:Int))/\w'.cell? ⟨pb,5,none⟩=some (.int .u32 (x.free:Int))/\w'.cell? ⟨pb,6,none⟩=some (.int .i64 (x.next:Int))/\w'.cell? ⟨pb,7,none⟩=some (.int .i64 (x.prev:Int)))
  (first|assumption|exact PG.held (by assumption))
  (first
   |((go_at_call 212;refine(Wn.o _ (by assumption)).mono ?_);rintro e w4 ⟨rfl,Nf⟩))
 have I4:Hid (PG O w pb s a x m3 _):=Fh (by assumption);clear x0 x1 x2 x3 x4 x5 x6 x7;obtain⟨x0,x1,x2,x3,x4,x5,x6,x7⟩:=I4.o.cells;have f3:=I4.o.pt.frozen 3;have f4:=I4.o.pt.frozen 4;have f5:=I4.o.pt.frozen 5;have f6:=I4.o.pt.frozen 6;have f7:=I4.o.pt.frozen 7;obtain⟨w5,IR⟩:=Fp (((((w4.setCell ⟨pb,3,none⟩ (.int .i64 0)).setCell ⟨pb,4,none⟩ (.int .i64 0)).setCell ⟨pb,5,none⟩ (.int .u32 0)).setCell ⟨pb,6,none⟩ (.int .i64 0)).setCell ⟨pb,7,none⟩ (.int .i64 0));have MF:=Fh (((((I4.o.put 3 (.int .i64 0) ⟨0,x.live,x.free,x.next,x.prev⟩ rfl).put 4 (.int .i64 0) ⟨0,0,x.free,x.next,x.prev⟩ rfl).put 5 (.int .u32 0) ⟨0,0,0,x.next,x.prev⟩ rfl).put 6 (.int .i64 0) ⟨0,0,0,0,x.prev⟩ rfl).put 7 (.int .i64 0) Sl.none_ rfl);rw[<-IR]at MF;go_upto_region 4 with fail;rw[<-IR];clear IR f3 f4 f5 f6 f7 Nf Il;clear x0 x1 x2 x3 x4 x5 x6 x7;obtain⟨x0,x1,x2,x3,x4,x5,x6,x7⟩:=MF.o.cells;go_wp2_with fail;refine(NB.o _ MF.o.has).mono ?_;rintro e w6⟨rfl,hg⟩;have Kg:=Fh (MF.o.mg hg);clear hg;clear x0 x1 x2 x3 x4 x5 x6 x7;obtain⟨x0,x1,x2,x3,x4,x5,x6,x7⟩:=Kg.o.cells;have Wo:=Kg.o.drew;go_wp2_with fail
 go_region_held3 (λw'=>aa (λk=>au O k\/k=pb) w w'/\w'.cell? ⟨pb,0,none⟩=some (.pointer (some ⟨O.mb,0,none⟩))/\w'.cell? ⟨pb,1,none⟩=some (.int .i64 (s:Int))/\w'.cell? ⟨pb,2,none⟩=some (.int .i64 (a:Int))/\w'.cell? ⟨pb,3,none⟩=some (.int .i64 0)/\w'.cell? ⟨pb,4,none⟩=some (.int .i64 0)/\w'.cell? ⟨pb,5,none⟩=some (.int .u32 0)/\w'.cell? ⟨pb,6,none⟩=some (.int .i64 0)/\w'.cell? ⟨pb,7,none⟩=some (.int .i64 0))
  (first|assumption|exact PG.held (by assumption))
  (first
   |((go_at_call 194;refine(Nu.o _ (by assumption)).mono ?_);rintro e w7 ⟨rfl,Wo⟩))
 have LI:Hid (PG O w pb s a Sl.none_ μ' _):=Fh (by assumption);clear x0 x1 x2 x3 x4 x5 x6 x7;obtain⟨x0,x1,x2,x3,x4,x5,x6,x7⟩:=LI.o.cells;go_wp2;go_end0;exact⟨rfl,LI.o.has,LI.o.kept⟩
end
section
variable{O:av}{μ:Mm}{w:World}
theorem PG.beside{pb s a B:Nat}{x:Sl}{W W2:World}(h:PG O w pb s a x μ W)(hB:∀k,eX O k->k<B)(Kv:pb<B)(hwB:w.heap.size<=B){S:Nat->Prop}(k:aa S W W2)(hS:∀j,S j->B<=j):PG O w pb s a x μ W2:=
 ⟨h.has.kept k (λj hj hs=>by have:=hB j hj;have:=hS j hs;omega),
  ⟨k.os.trans h.kept.os,k.tape.trans h.kept.tape,k.output.trans h.kept.output,Nat.le_trans h.kept.size k.size,λj hl hn=>(k.block j (Nat.lt_of_lt_of_le hl h.kept.size) (λe=>by have:=hS j e;omega)).trans (h.kept.block j hl hn)⟩,
  k.whole h.pt λe=>by have:=hS _ e;omega⟩
theorem lg{a sz:Nat}:∀ {k f:Nat} {m:Mm} {q:Nat×Mm},dD a sz k f m=some q->f<4294967296->a+k*sz<4294967296->q.1<4294967296
 |0,f,m,q,h,hf,_=>by
  obtain rfl:=Fk h;exact hf
 |k+1,f,m,q,h,hf,hk=>by
  rw[dD]at h;obtain⟨m1,h1,h2⟩:=Fi h;rw[Nat.succ_mul]at hk;exact lg h2 (by omega) (by omega)
theorem bo.cell{B:Nat}{W:World}{v:Value}{l:List Nat}(h:bo B W v l):∃A c,v= .slice A l.length c/\∀(i x:Nat),l[i]? =some x->∃g o,A=some ⟨g,o,none⟩/\W.cell? ⟨g,o+i,none⟩=some (.int .i64 (x:Int)):=by
 obtain⟨A,c,rfl,hr⟩:=eW h;refine⟨A,c,rfl,λi x hx=> ?_⟩;obtain⟨g,o,rfl,hc⟩:=hr i (.int .i64 (x:Int)) (by unfold aO;rw[List.getElem?_map,hx];rfl);exact⟨g,o,rfl,hc⟩
theorem bo.int{B g o n c:Nat}{W:World}{l:List Nat}(h:bo B W (.slice (some ⟨g,o,none⟩) n c) l):∃cs fz,W.heap[g]? =some (.cells cs 3 fz):=by
 rcases h.2 with⟨e,_⟩|⟨b,cap,Kb,e,MI,hh,_⟩
 ·cases e
 ·cases e;exact⟨_,_,hh⟩
theorem j9{W:World}{g k:Nat}{T:TypeId}{xs cs:Array Value}{fz:Nat×Nat}(h:W.heap[g]? =some (.cells cs 3 fz))(hw:Whole W k T xs)(hT:T≠3):g≠k:=λe=>by
 subst e;unfold Whole at hw;rw[hw]at h;injection h with h1;injection h1 with _ h2 _;exact hT h2
theorem ao.Wp{W:World}(h:ao O μ W){g:Nat}{cs:Array Value}{fz:Nat×Nat}(hg:W.heap[g]? =some (.cells cs 3 fz)):¬au O g:=by
 rintro(e|e|e)
 ·obtain⟨n,hn⟩:=h.wt;exact j9 hg hn (by decide) e
 ·obtain⟨c,hc,_⟩:=h.JP;exact j9 hg hc (by decide) e
 ·obtain⟨c,hc,_⟩:=h.ki;exact j9 hg hc (by decide) e
theorem zL(h:ao O μ w)(pb s c:Nat)(x x':Sl)(μ':Mm)(hp:Whole w pb 245 (Ha O.mb s (ax μ s) x))(hc:1<=c/\c<=9)(hx:x.free<4294967296)(hs:s<μ.Fq)(hv:ir s c x μ=some (x',μ')):
  Calls prog 294 #[.pointer (some ⟨pb,0,none⟩),.int .i64 (c:Int)] w λe w'=>e= .returned (.tuple #[])/\PG O w pb s (ax μ s) x' μ' w':=by
 unfold ir at hv;obtain⟨a,ha⟩:=Fp (ax μ s);rw[<-ha]at hv hp⊢;have G5:=h.cf;have I7:a+1024<4000000:=by
  rw[ha];unfold ax;have:=(bu h.ok).1;have h6:=(bu h.ok).2.2.2.2.2;have:s*1024<=63*1024:=Nat.mul_le_mul_right _ (by omega);omega
 obtain⟨m1,h1,hv⟩:=Fi hv;have s1:=l7 h1;obtain⟨m2,h2,hv⟩:=Fi hv;have s2:=fh h2;obtain⟨m3,h3,hv⟩:=Fi hv;have s3:=fh h3;obtain⟨⟨fr,m4⟩,h4,hv⟩:=Fi hv;dsimp only at hv;have s4:=lc h4;obtain⟨m5,h5,hv⟩:=Fi hv;have s5:=fP h5;obtain⟨m6,h6,hv⟩:=Fi hv;obtain⟨rfl,rfl⟩: {x with Ft:=c,free:=fr}=x'/\m6=μ':=by
  have:=Fk hv;exact⟨congrArg Prod.fst this,congrArg Prod.snd this⟩
 have e1:=s1.1;have e2:=s2.1;have e3:=s3.1;have e4:m4.Fq=m3.Fq:=s4.1;have e5:=s5.1;obtain⟨n,hn⟩:=Fp (ai c);obtain⟨sz,F8⟩:=Fp (ae c);obtain⟨nb,IJ⟩:=Fp (sz*n);obtain⟨pd,TP⟩:=Fp (fA c);have GI:=o6 hc;have hle:=(bF c).1;rw[<-hn]at hle GI h2 h3 h4;rw[<-F8]at GI h2 h3 h4;rw[<-IJ]at GI h2 h3;rw[<-TP]at GI h3;have GF:=lg h4 hx (by rw[Nat.mul_comm,<-IJ];omega);have Y5:Hid (PG O w pb s a x μ w):=Fh (PG.refl h hp);have Wn:=Fh (λW (hs:PG O w pb s a x μ W)=>hs.VL (ol hs.has 0 s m1 (by omega) (by omega) h1 (λq W2 hg hq=>cL hg.has 0 s q (by omega) (by omega) hq) (λq hq=>cJ hq (by omega))));have II:Hid (∀m W,PG O w pb s a {x with Ft:=c} m W->Calls prog 282 #[.agg (Ha O.mb s a {x with Ft:=c})] W λe w'=>e= .returned (.int .i64 (nb:Int))/\PG O w pb s a {x with Ft:=c} m w'):=Fh (λm W hs=>by rw[IJ,F8,hn];exact hs.Kh (k9 O.mb s a {x with Ft:=c} W hs.has.env.Hk));have HPD:Hid (∀m W,PG O w pb s a {x with Ft:=c} m W->Calls prog 338 #[.int .i64 (c:Int)] W λe w'=>e= .returned (.int .i64 (pd:Int))/\PG O w pb s a {x with Ft:=c} m w'):=Fh (λm W hs=>(Ez c W hs.has.env.Hk).mono λe w' hq=>⟨by rw[TP];exact hq.1,by rw[hq.2];exact hs⟩);have TR:=Fh (λW (hs:PG O w pb s a {x with Ft:=c} m1 W)=>hs.VL (jc hs.has a nb 6 m2 h2));have hm2:=λW (hs:PG O w pb s a {x with Ft:=c} m2 W)=>hs.VL (jc hs.has (a+nb) pd 8 m3 h3);simp only [show((a+nb:Nat):Int)=(a:Int)+(nb:Int)by omega]at hm2;have V1:=Fh hm2;have OA:=λW (hh:ao O m4 W)=>l9 hh s a {x with Ft:=c,free:=fr} m5 (by omega) h5;unfold Ha at OA;have NB:=Fh OA;have Nu:=Fh (λW (hs:PG O w pb s a {x with Ft:=c,free:=fr} m5 W)=>hs.VL (om hs.has c s m6 (by omega) (by omega) h6 (λc q W2 hc hg hq=>cL hg.has c s q hc (by omega) hq) (λq hq=>cJ hq (by omega))));have Gu:PG O w pb s a x μ w.drew:=Y5.o.drew;obtain⟨x0,x1,x2,x3,x4,x5,x6,x7⟩:=bg hp;have H4:=Fh h4;have IA:Hid (sz=ae c/\n=ai c):=Fh ⟨F8,hn⟩;have YR:=Fh IJ;have FJ:IntKind.i64.wrap ((a:Int)+(nb:Int))=(a:Int)+(nb:Int):=by rw[IntKind.wrap_i64];omega
 clear h hp hv h1 h2 h3 h4 h5 h6 hm2 OA ha F8 hn TP IJ e1 e2 e3 e4 e5 s1 s2 s3 s4 s5 hs G5;unfold Ha at II;go_in;go_wp2_with fail
 go_region_held3 (λw'=>aa (λk=>au O k\/k=pb) w w'/\w'.cell? ⟨pb,0,none⟩=some (.pointer (some ⟨O.mb,0,none⟩))/\w'.cell? ⟨pb,1,none⟩=some (.int .i64 (s:Int))/\w'.cell? ⟨pb,2,none⟩=some (.int .i64 (a:Int))/\w'.cell? ⟨pb,3,none⟩=some (.int .i64 (x.Ft:Int))/\w'.cell? ⟨pb,4,none⟩=some (.int .i64 (x.live:Int))/\w'.cell? ⟨pb,5,none⟩=some (.int .u32 (x.free:Int))/\w'.cell? ⟨pb,6,none⟩=some (.int .i64 (x.next:Int))/\w'.cell? ⟨pb,7,none⟩=some (.int .i64 (x.prev:Int)))
  (first|assumption|exact PG.held (by assumption))
  (first
   |((go_at_call 212;refine(Wn.o _ (by assumption)).mono ?_);rintro e w1 ⟨rfl,Nh⟩))
 have Tf:Hid (PG O w pb s a x m1 _):=Fh (by assumption);clear x0 x1 x2 x3 x4 x5 x6 x7;obtain⟨x0,x1,x2,x3,x4,x5,x6,x7⟩:=Tf.o.cells;clear Gu;have f3:=Tf.o.pt.frozen 3;obtain⟨w2,FL⟩:=Fp (w1.setCell ⟨pb,3,none⟩ (.int .i64 (c:Int)));have Mk:=Fh (Tf.o.put 3 (.int .i64 (c:Int)) ({x with Ft:=c}) rfl);rw[<-FL]at Mk;go_upto_region 2 with fail;rw[<-FL];clear FL f3;clear x0 x1 x2 x3 x4 x5 x6 x7;obtain⟨x0,x1,x2,x3,x4,x5,x6,x7⟩:=Mk.o.cells;have Il:=Mk.o.drew;go_wp2_with fail
 go_region_held3 (λw'=>aa (λk=>au O k\/k=pb) w w'/\w'.cell? ⟨pb,0,none⟩=some (.pointer (some ⟨O.mb,0,none⟩))/\w'.cell? ⟨pb,1,none⟩=some (.int .i64 (s:Int))/\w'.cell? ⟨pb,2,none⟩=some (.int .i64 (a:Int))/\w'.cell? ⟨pb,3,none⟩=some (.int .i64 (c:Int))/\w'.cell? ⟨pb,4,none⟩=some (.int .i64 (x.live:Int))/\w'.cell? ⟨pb,5,none⟩=some (.int .u32 (x.free:Int))/\w'.cell? ⟨pb,6,none⟩=some (.int .i64 (x.next:Int))/\w'.cell? ⟨pb,7,none⟩=some (.int .i64 (x.prev:Int)))
  (first|assumption|exact PG.held (by assumption))
  (first
   |((go_at_call 282;refine(II.o _ _ (by assumption)).mono ?_);rintro e w3 ⟨rfl,Il⟩)
   |((go_at_call 193;refine(TR.o _ (by assumption)).mono ?_);rintro e w4 ⟨rfl,Nf⟩))
 have I4:Hid (PG O w pb s a {x with Ft:=c} m2 _):=Fh (by assumption);clear x0 x1 x2 x3 x4 x5 x6 x7;obtain⟨x0,x1,x2,x3,x4,x5,x6,x7⟩:=I4.o.cells;clear Il;have Ik:=I4.o.drew;go_wp2_with fail
 go_region_held3 (λw'=>aa (λk=>au O k\/k=pb) w w'/\w'.cell? ⟨pb,0,none⟩=some (.pointer (some ⟨O.mb,0,none⟩))/\w'.cell? ⟨pb,1,none⟩=some (.int .i64 (s:Int))/\w'.cell? ⟨pb,2,none⟩=some (.int .i64 (a:Int))/\w'.cell? ⟨pb,3,none⟩=some (.int .i64 (c:Int))/\w'.cell? ⟨pb,4,none⟩=some (.int .i64 (x.live:Int))/\w'.cell? ⟨pb,5,none⟩=some (.int .u32 (x.free:Int))/\w'.cell? ⟨pb,6,none⟩=some (.int .i64 (x.next:Int))/\w'.cell? ⟨pb,7,none⟩=some (.int .i64 (x.prev:Int)))
  (first|assumption|exact PG.held (by assumption))
  (first
   |((go_at_call 282;refine(II.o _ _ (by assumption)).mono ?_);rintro e w5 ⟨rfl,Ik⟩)
   |((go_at_call 338;refine(HPD.o _ _ (by assumption)).mono ?_);rintro e w6 ⟨rfl,OB⟩)
   |((go_at_call 193;refine(V1.o _ (by assumption)).mono ?_);rintro e w7 ⟨rfl,Wo⟩))
 have LI:Hid (PG O w pb s a {x with Ft:=c} m3 _):=Fh (by assumption);clear x0 x1 x2 x3 x4 x5 x6 x7;obtain⟨x0,x1,x2,x3,x4,x5,x6,x7⟩:=LI.o.cells;clear Ik;obtain⟨lb,Mg⟩:=Fp w7.heap.size;obtain⟨w8,Ql⟩:=Fp (w7.alloc (.cells #[.slice none 0 0] 125));have hb8:Below w7.heap.size w7 w8:=by rw[Ql];exact(Below.refl _ _).alloc (Fm _) _
 have O7:=Fh (LI.o.below hb8);have V5:Whole w8 lb 125 #[.slice none 0 0]:=by rw[Ql,Mg];exact Whole.new _ _ _
 have KM:∀k,eX O k->k<lb:=λk hk=>by rw[Mg];exact LI.o.has.lt hk
 have hpb8:pb<lb:=by rw[Mg];exact LI.o.pt.lt
 have hww8:w.heap.size<=lb:=by rw[Mg];exact LI.o.kept.size
 have Y6:lb<w8.heap.size:=V5.lt;have HL8:=Fh V5;have HEA:Hid (Calls prog 208 #[.agg (Ha O.mb s a {x with Ft:=c}),.func (.func 339) #[] #[.pointer (some ⟨lb,0,none⟩)]] w8 λe w'=>e= .returned (.tuple #[])/\PG O w pb s a {x with Ft:=c} m3 w'/\eO lb lb (gA a sz n) w'/\lb<w'.heap.size):=Fh (by
  obtain⟨F8,hn⟩:=IA.o;have h:=uq O.mb s a {x with Ft:=c} w8 O7.o.has.env.Hk 339 #[] #[.pointer (some ⟨lb,0,none⟩)] (by omega) (enters_of func339 (by kernel_rfl) rfl)
   (λi W=>PG O w pb s a {x with Ft:=c} m3 W/\eO lb lb (gA a sz i) W/\lb<W.heap.size)
   (λW hb=>⟨O7.o.below hb,⟨_,(hb.block _ V5.lt).trans V5,dm _ _ _ _⟩,Nat.lt_of_lt_of_le Y6 hb.size⟩)
   (λi W h=>h.1.has.env.Hk)
   (λi W W' h hb=>⟨h.1.below hb,h.2.1.kept (aa.below hb λ_=>False) id λ_ e=>e.elim,Nat.lt_of_lt_of_le h.2.2 hb.size⟩)
   (λi W hi h=>by
    show Calls _ _ #[.int .i64 ((a+i*ae c:Nat):Int),.pointer (some ⟨lb,0,none⟩)] W _;rw[<-F8];have hi':i<n:=by rw[hn];exact hi
    refine(zB lb lb (a+i*sz) (gA a sz i) W h.2.1 (Nat.le_of_lt h.2.2) (by rw[bV];omega)).mono ?_;rintro e w'⟨rfl,IJ,hk⟩;refine⟨⟨_,rfl⟩,⟨h.1.beside KM hpb8 hww8 hk λj hj=> ?_,IJ,Nat.lt_of_lt_of_le h.2.2 hk.size⟩,hk.mono λk _ e=> ?_⟩
    ·rcases hj with e|⟨e,_⟩
     ·omega
     ·exact e
    ·rcases e with e|⟨_,e⟩
     ·exact .inl (by rw[e];exact Y6)
     ·exact .inr e)
  rw[<-show n=ai ({x with Ft:=c}:Sl).Ft from hn]at h;exact h)
 clear hb8 V5 KM hpb8 hww8 Y6;unfold Ha at HEA;go_upto_region 5 with fail;rw[<-Ql,<-Mg];clear Ql Mg;clear x0 x1 x2 x3 x4 x5 x6 x7;obtain⟨x0,x1,x2,x3,x4,x5,x6,x7⟩:=O7.o.cells;go_wp2_with fail;refine HEA.o.mono ?_;rintro e w9⟨rfl,Sx,⟨v,Pl,Uj⟩,_⟩;obtain⟨A,c9,rfl,Uk⟩:=Uj.cell;rw[bV]at Pl;obtain⟨g,o,rfl,_⟩:=Uk 0 (a+0*sz) (jw a sz n 0 (by omega));have Q4:=Fh Sx;have JE:Hid (∀i,i<n->w9.cell? ⟨g,o+i,none⟩=some (.int .i64 ((a+i*sz:Nat):Int))):=Fh (λi hi=>by
  obtain⟨g',o',e,hc'⟩:=Uk i (a+i*sz) (jw a sz n i hi);cases e;exact hc')
 have HVB:=Fh Pl;have HPN:Hid (¬(au O lb\/lb=pb)/\¬(au O g\/g=pb)):=Fh (by
  obtain⟨cs,fz,hg⟩:=Uj.int;refine⟨?_,?_⟩
  ·rintro(e|e)
   ·exact Sx.has.other Pl (by decide) (by decide) (by decide) (by decide) (λy e=>by simp at e) (ye e)
   ·exact aE Pl Sx.pt (by decide) e
  ·rintro(e|e)
   ·exact Sx.has.Wp hg e
   ·exact j9 hg Sx.pt (by decide) e)
 have l0:w9.cell? ⟨lb,0,none⟩=some (.slice (some ⟨g,o,none⟩) n c9):=Pl.cell 0;clear Sx Pl Uj Uk;clear x0 x1 x2 x3 x4 x5 x6 x7;obtain⟨x0,x1,x2,x3,x4,x5,x6,x7⟩:=Q4.o.cells;go_wp2_with fail;have HP9':Hid (PG O w9 pb s a {x with Ft:=c} m3 w9):=Fh (PG.refl Q4.o.has Q4.o.pt);clear x0 x1 x2 x3 x4 x5 x6 x7 l0
 go_loopw [5,56] (λ_ s56 wr=>∃i f:Nat,i<=n/\s56= .int .i64 (i:Int)/\f<4294967296/\Hid (∃m,PG O w9 pb s a {x with Ft:=c,free:=f} m wr/\dD a sz (n-i) f m=some (fr,m4))) (λ_ s56 _=>n-(intOf s56).toNat)
 case atStart=>exact⟨0,x.free,by omega,rfl,hx,Fh ⟨m3,HP9'.o,H4.o⟩⟩
 case round=>
  obtain⟨i,f,hi,rfl,Uc,HI⟩:=hrel;obtain⟨m,Wq,Ml⟩:=HI.o;have l0:wr.cell? ⟨lb,0,none⟩=some (.slice (some ⟨g,o,none⟩) n c9):=Wq.kept.cell (HVB.o.cell 0) HPN.o.1;by_cases FR:i<n
  ·have d0:decide ((i:Int)<(n:Int))=true:=by simp;omega
   obtain⟨j,hj⟩:=Fp (n-1-i);rw[show n-i=j+1 by omega,dD]at Ml;obtain⟨m1',e1,e2⟩:=Fi Ml;have hjz:a+j*sz<4294967296:=by
    have:j*sz<=n*sz:=Nat.mul_le_mul_right _ (by omega);have:=YR.o;rw[Nat.mul_comm]at this;omega
   have lj:wr.cell? ⟨g,o+j,none⟩=some (.int .i64 ((a+j*sz:Nat):Int)):=Wq.kept.cell (JE.o j (by omega)) HPN.o.2;obtain⟨z,hz⟩:=Fp (a+j*sz);rw[<-hz]at lj e1 e2 hjz;have FL:IntKind.i64.wrap ((n:Int)-1)=(n:Int)-1:=by rw[IntKind.wrap_i64];omega
   have F7:IntKind.i64.wrap ((n:Int)-1-(i:Int))=(j:Int):=by rw[IntKind.wrap_i64];omega
   have Ul:j<n:=by omega
   have O8:=Fh (uD Wq.has pb s a z {x with Ft:=c,free:=f} m1' Wq.pt Uc hjz e1);have HPG:=Fh Wq;have Pu:=Fh e2;have HJ:Hid (n-(i+1)=j):=Fh (by omega);clear Wq Ml e1 e2 hz hj HI;go_wp2_with fail;refine O8.o.mono ?_;rintro e LV⟨rfl,Sy⟩;have NC:=Fh (HPG.o.trans Sy);clear Sy l0 lj;go_wp2;go_roundw
   case rel=>exact⟨i+1,z,FR,by go_num,hjz,Fh ⟨_,NC.o,by rw[HJ.o];exact Pu.o⟩⟩
   case measure=>simp[intOf];omega
  ·have d0:decide ((i:Int)<(n:Int))=false:=by simp;omega
   have GU:i=n:=by omega
   rw[GU,Nat.sub_self,dD]at Ml;have Ml:=Fk Ml;obtain⟨rfl,rfl⟩:f=fr/\m=m4:=⟨congrArg Prod.fst Ml,congrArg Prod.snd Ml⟩;have Lj:=Fh (Q4.o.trans Wq);clear Wq GU HI l0;obtain⟨x0,x1,x2,x3,x4,x5,x6,x7⟩:=Lj.o.cells;go_wp2_with fail;refine(NB.o _ Lj.o.has).mono ?_;rintro e T5⟨rfl,hg⟩;have JI:=Fh (Lj.o.mg hg);clear hg;clear x0 x1 x2 x3 x4 x5 x6 x7;obtain⟨x0,x1,x2,x3,x4,x5,x6,x7⟩:=JI.o.cells;have hs13:=JI.o.drew;go_wp2_with fail
   go_region_held3 (λw'=>aa (λk=>au O k\/k=pb) w w'/\w'.cell? ⟨pb,0,none⟩=some (.pointer (some ⟨O.mb,0,none⟩))/\w'.cell? ⟨pb,1,none⟩=some (.int .i64 (s:Int))/\w'.cell? ⟨pb,2,none⟩=some (.int .i64 (a:Int))/\w'.cell? ⟨pb,3,none⟩=some (.int .i64 (c:Int))/\w'.cell? ⟨pb,4,none⟩=some (.int .i64 (x.live:Int))/\w'.cell? ⟨pb,5,none⟩=some (.int .u32 (f:Int))/\w'.cell? ⟨pb,6,none⟩=some (.int .i64 (x.next:Int))/\w'.cell? ⟨pb,7,none⟩=some (.int .i64 (x.prev:Int)))
    (first|assumption|exact PG.held (by assumption))
    (first
     |((go_at_call 194;refine(Nu.o _ (by assumption)).mono ?_);rintro e RM ⟨rfl,hs13⟩))
   have LX:Hid (PG O w pb s a {x with Ft:=c,free:=f} m6 _):=Fh (by assumption);clear x0 x1 x2 x3 x4 x5 x6 x7;obtain⟨x0,x1,x2,x3,x4,x5,x6,x7⟩:=LX.o.cells;go_wp2;go_end0;exact⟨rfl,LX.o⟩
end
section
variable{O:av}{μ:Mm}{w:World}
theorem wT(s n a:Nat)(w:World)(hs:Sz w)(ok:LP s n=true)(h1:aN s n<=a)(h2:a<br s n):Calls prog 281 #[.agg #[.int .i64 (s:Int),.int .i64 (n:Int)],.int .i64 (a:Int)] w λe w'=>e= .returned (.tuple #[.int .i64 (((a-aN s n)/1024:Nat):Int),.bool true])/\Below w.heap.size w w':=by
 obtain⟨w0,Fx,FM,x0,x1⟩:=dp s n w;obtain⟨z1,z2,z3,z4,z5,z6⟩:=bu ok;obtain⟨o1,o2,o3,o4,o5⟩:=bB.1 ok;have hri:=λW (hb:Below w.heap.size w W)=>dU s n W (hs.below hb) (by omega) (by omega);rw[ok]at hri;have HRI:=Fh hri;have Vv:=Fh (λW (hb:Below w.heap.size w W)=>lK s n W (hs.below hb) ok);have LW:=Fh (λW (hb:Below w.heap.size w W)=>jb s n W (hs.below hb) ok);have GW:=Fh FM;have HX:=Fh (λW (hb:Below w0.heap.size w0 W)=>(⟨aK x0 hb,aK x1 hb⟩:W.cell? ⟨w.heap.size,0,none⟩=some (.int .i64 (s:Int))/\W.cell? ⟨w.heap.size,1,none⟩=some (.int .i64 (n:Int))));obtain⟨b,hb⟩:=Fp (aN s n);obtain⟨z,hz⟩:=Fp (br s n);rw[<-hb]at Vv h1⊢;rw[<-hz]at LW h2 z1;obtain⟨d,hd⟩:=Fp (a-b);rw[<-hd];have d0:decide ((a:Int)<(b:Int))=false:=by simp;omega
 have d1:decide ((z:Int)<=(a:Int))=false:=by simp;omega
 have e0:decide (a<b)=false:=by simp;omega
 have e1:decide (z<=a)=false:=by simp;omega
 have r1:IntKind.i64.wrap ((a:Int)-(b:Int))=(d:Int):=by rw[IntKind.wrap_i64];omega
 have r2:Int.tdiv (d:Int) 1024=((d/1024:Nat):Int):=by rw[Int.tdiv_eq_ediv_of_nonneg (by omega)];omega
 obtain⟨q,hq⟩:=Fp (d/1024);rw[<-hq]at r2⊢;have hq5:q<=200000:=by omega
 clear hs ok FM hri hb hz hd hq o1 o2 o3 o4 o5 z1 z2 z3 z4 z5 z6 h1 h2;go_in;go_upto_region 1 with fail;rw[<-Fx];clear Fx;go_wp2_with fail;refine(HRI.o _ GW.o).mono ?_;rintro e w1⟨rfl,FN⟩;have JS:=Fh FN;have GH:=Fh (ah GW.o FN);clear FN x0 x1;obtain⟨x0,x1⟩:=HX.o _ JS.o;go_wp2_with fail;refine(Vv.o _ GH.o).mono ?_;rintro e w2⟨rfl,FF⟩;have Mj:=Fh (ah JS.o FF);have Gx:=Fh (ah GH.o FF);clear FF x0 x1;obtain⟨x0,x1⟩:=HX.o _ Mj.o;go_wp2_with fail;refine(LW.o _ Gx.o).mono ?_;rintro e w3⟨rfl,Gf⟩;have IP:=Fh (ah Mj.o Gf);have M9:=Fh (ah Gx.o Gf);clear Gf x0 x1;obtain⟨x0,x1⟩:=HX.o _ IP.o;go_wp2_with fail;refine(Vv.o _ M9.o).mono ?_;rintro e w4⟨rfl,Gk⟩;go_wp2;go_ret2;exact⟨rfl,ah M9.o Gk⟩
theorem jz(h:ao O μ w)(s a:Nat)(x:Sl):∃w0,w0=w.alloc (.cells (Ha O.mb s a x) 245)/\Below w.heap.size w w0/\PG O w0 w.heap.size s a x μ w0:=
 ⟨_,rfl,(Below.refl _ w).alloc (Fm _) _,PG.refl (h.alloc _) (Whole.new w _ _)⟩
theorem o7{pb:Nat}{W:World}{w0:World}(hb:Below w.heap.size w w0)(hp:w.heap.size<=pb)(hh:ao O μ W)(hk:aa (λk=>au O k\/k=pb) w0 W):MG O w μ W:=
 ⟨hh,⟨hk.os.trans hb.os,hk.tape.trans hb.tape,hk.output.trans hb.output,Nat.le_trans hb.size hk.size,λk hl hn=>(hk.block k (Nat.lt_of_lt_of_le hl hb.size) (λe=>e.elim hn λe=>by omega)).trans (hb.block k hl)⟩⟩
theorem PG.new{pb s a:Nat}{x:Sl}{W:World}{w0:World}(hb:Below w.heap.size w w0)(hp:w.heap.size<=pb)(h:PG O w0 pb s a x μ W):MG O w μ W:=o7 hb hp h.has h.kept
theorem kf(ok:LP μ.Fq μ.slots=true){s:Nat}(hs:s<μ.Fq):ax μ s+1024<=μ.size/\μ.size<=200000:=by
 obtain⟨z1,z2,z3,z4,z5,z6⟩:=bu ok;unfold ax;show _<=br μ.Fq μ.slots/\br μ.Fq μ.slots<=200000;have:(s+1)*1024<=μ.Fq*1024:=Nat.mul_le_mul_right _ hs;omega
theorem jA{p s b:Nat}(h:je p μ=some (s,b)):μ.base<=p/\p<μ.size/\s=(p-μ.base)/1024/\∃x,dR s μ=some x/\1<=x.Ft/\x.Ft<=9/\p-ax μ s<ae x.Ft*ai x.Ft/\b=p-(p-ax μ s)%ae x.Ft:=by
 unfold je at h;split at h
 case isFalse=>cases h
 case isTrue hh=>
  obtain⟨x,h1,h⟩:=Fi h;split at h
  ·cases h
  ·rename_i hn
   have h:=Fk h;obtain⟨rfl,rfl⟩:(p-μ.base)/1024=s/\p-(p-ax μ ((p-μ.base)/1024))%ae x.Ft=b:=⟨congrArg Prod.fst h,congrArg Prod.snd h⟩;exact⟨hh.1,hh.2,rfl,x,h1,by omega,by omega,by omega,rfl⟩
theorem iI{s:Nat}{x:Sl}(h:dR s μ=some x):s<μ.Fq/\x.Ft<65536/\x.live<65536/\x.free<4294967296/\x.next<4294967296/\x.prev<4294967296:=by
 unfold dR at h;obtain⟨c,h1,h⟩:=Fi h;obtain⟨l,h2,h⟩:=Fi h;obtain⟨f,h3,h⟩:=Fi h;obtain⟨n,h4,h⟩:=Fi h;obtain⟨p,h5,h⟩:=Fi h;obtain rfl:=Fk h;exact⟨(fK h1).1,cH h1,cH h2,cH h3,cH h4,cH h5⟩
theorem kh(h:ao O μ w)(p s b:Nat)(hv:je p μ=some (s,b)):Calls prog 189 #[.pointer (some ⟨O.mb,0,none⟩),.int .i64 (p:Int)] w λe w'=>e= .returned (.tuple #[.int .i64 (s:Int),.int .i64 (b:Int),.bool true])/\MG O w μ w':=by
 obtain⟨h1,h2,h3,x,hx,GN,IY,FR,hb⟩:=jA hv;obtain⟨hs,Q5,MM,Tn,hx4,hx5⟩:=iI hx;obtain⟨IX,Y7⟩:=kf h.ok hs;have HC:=Fh (aD h);have VM:=λW (hg:MG O w μ W)=>wT μ.Fq μ.slots p W hg.has.env.Hk h.ok h1 h2;change∀W,MG O w μ W->Calls _ _ _ W (λe w'=>e= .returned (.tuple #[.int .i64 (((p-μ.base)/1024:Nat):Int),.bool true])/\Below W.heap.size W w')at VM;rw[<-h3]at VM;have HLS:=Fh VM;have Ku:=Fh (λW (hg:MG O w μ W)=>oU hg.has s x hx);obtain⟨a,ha⟩:=Fp (ax μ s);rw[<-ha]at Ku FR hb IX;obtain⟨sz,F8⟩:=Fp (ae x.Ft);obtain⟨nb,IJ⟩:=Fp (ae x.Ft*ai x.Ft);have PD:=o6 ⟨GN,IY⟩;rw[<-IJ]at FR PD;rw[<-F8]at hb PD;have Ml:a<=p:=by
  rw[ha,h3];unfold ax;show μ.base+_<=p;have:=Nat.div_mul_le_self (p-μ.base) 1024;omega
 obtain⟨d,hd⟩:=Fp (p-a);rw[<-hd]at FR hb;obtain⟨r,hr⟩:=Fp (d%sz);rw[<-hr]at hb;have MH:r<=d:=by rw[hr];exact Nat.mod_le _ _
 have FE:Hid (MG O w μ w):=Fh (MG.refl h);have c0:((x.Ft:Int)==0)=false:=by rw[Fo];omega
 have d0:decide ((nb:Int)<=(d:Int))=false:=by simp;omega
 have d1:decide (nb<=d)=false:=by simp;omega
 have r1:IntKind.i64.wrap ((p:Int)-(a:Int))=(d:Int):=by rw[IntKind.wrap_i64];omega
 have r2:Int.tmod (d:Int) (sz:Int)=(r:Int):=by rw[Int.tmod_eq_emod_of_nonneg (by omega),hr];omega
 have r3:IntKind.i64.wrap ((p:Int)-(r:Int))=(b:Int):=by rw[IntKind.wrap_i64];omega
 have z0:¬((sz:Int)=0):=by omega
 have z1:((sz:Int)==0)=false:=by rw[Fo];omega
 have z2:¬(sz=0):=by omega
 have r4:IntKind.i64.wrap (r:Int)=(r:Int):=by rw[IntKind.wrap_i64];omega
 have HSB:Hid (∀pb W0 W,PG O W0 pb s a x μ W->Calls prog 282 #[.agg (Ha O.mb s a x)] W λe w'=>e= .returned (.int .i64 (nb:Int))/\PG O W0 pb s a x μ w'):=Fh (λpb W0 W hs=>by rw[IJ];exact hs.Kh (k9 O.mb s a x W hs.has.env.Hk));have IA:Hid (∀pb W0 W,PG O W0 pb s a x μ W->Calls prog 192 #[.agg (Ha O.mb s a x)] W λe w'=>e= .returned (.int .i64 (sz:Int))/\PG O W0 pb s a x μ w'):=Fh (λpb W0 W hs=>by rw[F8];exact hs.Kh (ju O.mb s a x W hs.has.env.Hk));clear h hv h1 h2 h3 hx VM ha F8 IJ PD hd hr hb IX;go_in;go_wp2_with fail;refine HC.o.mono ?_;rintro e w1⟨rfl,hb⟩;have FA:=Fh (FE.o.below hb);clear hb;go_wp2_with fail;refine(HLS.o _ FA.o).mono ?_;rintro e w2⟨rfl,hb⟩;have FK:=Fh (FA.o.below hb);clear hb;go_wp2_with fail;refine(Ku.o _ FK.o).mono ?_;rintro e w3⟨rfl,hg⟩;have FT:=Fh (FK.o.trans hg);clear hg;obtain⟨w,hw,Gk,I8⟩:=jz FT.o.has s a x;obtain⟨pb,Kv⟩:=Fp w3.heap.size;rw[<-Kv]at I8;have I4:=Fh I8;have IM:=Fh Gk;have To:Hid (w3.heap.size<=pb):=Fh (by omega);clear I8 Gk;unfold Ha at hw HSB IA⊢;go_upto_region 5 with fail;rw[<-hw,<-Kv];clear hw Kv;obtain⟨x0,x1,x2,x3,x4,x5,x6,x7⟩:=I4.o.cells;have Nf:=I4.o.drew;go_wp2_with fail
 go_region_held3 (λw'=>aa (λk=>au O k\/k=pb) w w'/\w'.cell? ⟨pb,0,none⟩=some (.pointer (some ⟨O.mb,0,none⟩))/\w'.cell? ⟨pb,1,none⟩=some (.int .i64 (s:Int))/\w'.cell? ⟨pb,2,none⟩=some (.int .i64 (a:Int))/\w'.cell? ⟨pb,3,none⟩=some (.int .i64 (x.Ft:Int))/\w'.cell? ⟨pb,4,none⟩=some (.int .i64 (x.live:Int))/\w'.cell? ⟨pb,5,none⟩=some (.int .u32 (x.free:Int))/\w'.cell? ⟨pb,6,none⟩=some (.int .i64 (x.next:Int))/\w'.cell? ⟨pb,7,none⟩=some (.int .i64 (x.prev:Int)))
  (first|assumption|exact PG.held (by assumption))
  (first
   |((go_at_call 282;refine(HSB.o _ _ _ (by assumption)).mono ?_);rintro e w5 ⟨rfl,Ik⟩))
 have MF:Hid (PG O w pb s a x μ _):=Fh (by assumption);clear x0 x1 x2 x3 x4 x5 x6 x7;obtain⟨x0,x1,x2,x3,x4,x5,x6,x7⟩:=MF.o.cells;clear Nf;have OB:=MF.o.drew;go_wp2_with fail
 go_region_held3 (λw'=>aa (λk=>au O k\/k=pb) w w'/\w'.cell? ⟨pb,0,none⟩=some (.pointer (some ⟨O.mb,0,none⟩))/\w'.cell? ⟨pb,1,none⟩=some (.int .i64 (s:Int))/\w'.cell? ⟨pb,2,none⟩=some (.int .i64 (a:Int))/\w'.cell? ⟨pb,3,none⟩=some (.int .i64 (x.Ft:Int))/\w'.cell? ⟨pb,4,none⟩=some (.int .i64 (x.live:Int))/\w'.cell? ⟨pb,5,none⟩=some (.int .u32 (x.free:Int))/\w'.cell? ⟨pb,6,none⟩=some (.int .i64 (x.next:Int))/\w'.cell? ⟨pb,7,none⟩=some (.int .i64 (x.prev:Int)))
  (first|assumption|exact PG.held (by assumption))
  (first
   |((go_at_call 192;refine(IA.o _ _ _ (by assumption)).mono ?_);rintro e w6 ⟨rfl,OB⟩))
 have Kg:Hid (PG O w pb s a x μ _):=Fh (by assumption);clear x0 x1 x2 x3 x4 x5 x6 x7;obtain⟨x0,x1,x2,x3,x4,x5,x6,x7⟩:=Kg.o.cells;go_wp2;go_ret3;exact⟨rfl,FT.o.trans (PG.new IM.o To.o Kg.o)⟩
end
section
variable{O:av}{μ:Mm}{w:World}
structure QG(O:av)(w:World)(qb f:Nat)(μ:Mm)(W:World):Prop where
 mg:MG O w μ W
 pt:Whole W qb 133 #[.pointer (some ⟨O.mb,0,none⟩),.int .i64 (f:Int)]
 nt:¬au O qb
variable{qb f:Nat}{W:World}
theorem QG.on{μ':Mm}{W2:World}(h:QG O w qb f μ W)(k:MG O W μ' W2):QG O w qb f μ' W2:=⟨h.mg.trans k,k.kept.whole h.pt h.nt,h.nt⟩
theorem QG.below{W2:World}(h:QG O w qb f μ W)(k:Below W.heap.size W W2):QG O w qb f μ W2:=h.on ((MG.refl h.mg.has).below k)
theorem QG.drew(h:QG O w qb f μ W):QG O w qb f μ W.drew:=h.below (Below.refl _ W).drew
theorem QG.on_{P:Program}{fn:FuncId}{args:Array Value}{V:Value}{μ':Mm}(hs:QG O w qb f μ W)(h:Calls P fn args W λe w'=>e= .returned V/\MG O W μ' w'):Calls P fn args W λe w'=>e= .returned V/\QG O w qb f μ' w':=h.mono λe w' hq=>⟨hq.1,hs.on hq.2⟩
theorem QG.held(h:QG O w qb f μ W):aa (au O) w W/\W.cell? ⟨qb,0,none⟩=some (.pointer (some ⟨O.mb,0,none⟩))/\W.cell? ⟨qb,1,none⟩=some (.int .i64 (f:Int)):=⟨h.mg.kept,h.pt.cell 0,h.pt.cell 1⟩
theorem kj(h:ao O μ w)(f:Nat):∃w0,w0=w.alloc (.cells #[.pointer (some ⟨O.mb,0,none⟩),.int .i64 (f:Int)] 133)/\QG O w w.heap.size f μ w0:=
 ⟨_,rfl,(MG.refl h).alloc _,Whole.new w _ _,h.Fu (Fm _)⟩
theorem o8(h:ao O μ w)(f v:Nat)(hf:f<21)(IT:f≠16)(hv:μ.root f=some v):Calls prog 270 #[.agg #[.pointer (some ⟨O.mb,0,none⟩),.int .i64 (f:Int)]] w λe w'=>e= .returned (.int .i64 (v:Int))/\MG O w μ w':=by
 have JF:=aU hv IT;obtain⟨w0,Fx,hq⟩:=kj h f;obtain⟨_,x0,x1⟩:=hq.held;have FE:=Fh hq.mg;have HR:=Fh (gj hq.mg.has f v hf hv);clear h hv hq;go_in;go_upto_region 1 with fail;rw[<-Fx];clear Fx;go_wp2_with fail;refine HR.o.mono ?_;rintro e w1⟨rfl,hg⟩;have FA:=Fh (FE.o.trans hg);clear hg;go_wp2;go_ret;exact⟨rfl,FA.o⟩
theorem jB{a n:Nat}(h:jg a μ=some n):n<4294967296:=jx (W:=4) h (by omega) (by decide)
theorem me{a n:Nat}(h:kL a μ=some n):n<4294967296:=jx (W:=4) h (by omega) (by decide)
theorem hG(h:ao O μ w)(a n:Nat)(ha:a<4294967296)(hv:jg a μ=some n):Calls prog 178 #[.pointer (some ⟨O.mb,0,none⟩),.int .i64 (a:Int)] w λe w'=>e= .returned (.int .i64 (n:Int))/\MG O w μ w':=by
 have hn:=jB hv;have HL:=Fh (eF h a 5 n ha (by omega) hv);have FE:=Fh (MG.refl h);clear h hv;go_in;go_wp2_with fail;refine HL.o.mono ?_;rintro e w1⟨rfl,hg⟩;have FA:=Fh (FE.o.trans hg);clear hg;go_wp2;go_ret;exact⟨rfl,FA.o⟩
theorem o9(h:ao O μ w)(a n:Nat)(ha:a<4294967296)(hv:kL a μ=some n):Calls prog 181 #[.pointer (some ⟨O.mb,0,none⟩),.int .i64 (a:Int)] w λe w'=>e= .returned (.int .i64 (n:Int))/\MG O w μ w':=by
 have hn:=me hv;have HL:=Fh (eF h a 6 n ha (by omega) hv);have FE:=Fh (MG.refl h);clear h hv;go_in;go_wp2_with fail;refine HL.o.mono ?_;rintro e w1⟨rfl,hg⟩;have FA:=Fh (FE.o.trans hg);clear hg;go_wp2;go_ret;exact⟨rfl,FA.o⟩
theorem jC(h:ao O μ w)(a b:Nat)(μ':Mm)(ha:a<4294967296)(hb:b<4294967296)(hv:jh a b μ=some μ'):Calls prog 180 #[.pointer (some ⟨O.mb,0,none⟩),.int .i64 (a:Int),.int .i64 (b:Int)] w λe w'=>e= .returned (.tuple #[])/\MG O w μ' w':=by
 obtain⟨m1,h1,h2⟩:=Fi hv;have H1:=Fh (cO h a 5 b m1 ha (by omega) h1);have H2:=Fh (λW (hg:MG O w m1 W)=>cO hg.has b 6 a μ' hb (by omega) h2);have FE:=Fh (MG.refl h);have r1:IntKind.u64.wrap (a:Int)=(a:Int):=by rw[IntKind.wrap_u64];omega
 have r2:IntKind.u64.wrap (b:Int)=(b:Int):=by rw[IntKind.wrap_u64];omega
 clear h hv h1 h2;go_in;go_wp2_with fail;refine H1.o.mono ?_;rintro e w1⟨rfl,hg⟩;have FA:=Fh (FE.o.trans hg);clear hg;go_wp2_with fail;refine(H2.o _ FA.o).mono ?_;rintro e w2⟨rfl,hg⟩;have FK:=Fh (FA.o.trans hg);clear hg;go_wp2;go_end0;exact⟨rfl,FK.o⟩
theorem zM(h:ao O μ w)(a:Nat)(m1 μ':Mm)(ha:a<4294967296)(h1:bE a 5 0 μ=some m1)(h2:bE a 6 0 m1=some μ'):Calls prog 182 #[.pointer (some ⟨O.mb,0,none⟩),.int .i64 (a:Int)] w λe w'=>e= .returned (.tuple #[])/\MG O w μ' w':=by
 have H1:=Fh (cO h a 5 0 m1 ha (by omega) h1);have H2:=Fh (λW (hg:MG O w m1 W)=>cO hg.has a 6 0 μ' ha (by omega) h2);have FE:=Fh (MG.refl h);clear h h1 h2;go_in;go_wp2_with fail;refine H1.o.mono ?_;rintro e w1⟨rfl,hg⟩;have FA:=Fh (FE.o.trans hg);clear hg;go_wp2_with fail;refine(H2.o _ FA.o).mono ?_;rintro e w2⟨rfl,hg⟩;have FK:=Fh (FA.o.trans hg);clear hg;go_wp2;go_end0;exact⟨rfl,FK.o⟩
theorem oq(h:ao O μ w)(n:Nat)(hv:μ.root 15=some n):Calls prog 106 #[.pointer (some ⟨O.mb,0,none⟩)] w λe w'=>e= .returned (.int .i64 (n:Int))/\MG O w μ w':=by
 have hn:=aU hv (by omega);have HL:=Fh (gj h 15 n (by omega) hv);have FE:=Fh (MG.refl h);clear h hv;go_in;go_wp2_with fail;refine HL.o.mono ?_;rintro e w1⟨rfl,hg⟩;have FA:=Fh (FE.o.trans hg);clear hg;go_wp2;go_ret;exact⟨rfl,FA.o⟩
theorem EC(h:ao O μ w)(μ':Mm)(hv:bK 15 μ=some μ'):Calls prog 183 #[.pointer (some ⟨O.mb,0,none⟩),.int .i64 1] w λe w'=>e= .returned (.tuple #[])/\MG O w μ' w':=by
 obtain⟨n,h1,h2⟩:=Fi hv;have hn:=aU h1 (by omega);have HL:=Fh (oq h n h1);have hs:=λW (hg:MG O w μ W)=>bf hg.has 15 (n+1) μ' (by omega) h2;simp only [show((n+1:Nat):Int)=(n:Int)+1 from rfl]at hs;have HS:=Fh hs;have FE:=Fh (MG.refl h);have r1:IntKind.u64.wrap ((n:Int)+1)=(n:Int)+1:=by rw[IntKind.wrap_u64];omega
 have r2:IntKind.i64.wrap ((n:Int)+1)=(n:Int)+1:=by rw[IntKind.wrap_i64];omega
 clear h hv h1 h2 hs;go_in;go_wp2_with fail;refine HL.o.mono ?_;rintro e w1⟨rfl,hg⟩;have FA:=Fh (FE.o.trans hg);clear hg;go_wp2_with fail;refine(HS.o _ FA.o).mono ?_;rintro e w2⟨rfl,hg⟩;have FK:=Fh (FA.o.trans hg);clear hg;go_wp2;go_end0;exact⟨rfl,FK.o⟩
theorem BL(h:ao O μ w)(μ':Mm)(hv:dV 15 μ=some μ'):Calls prog 183 #[.pointer (some ⟨O.mb,0,none⟩),.int .i64 (-1)] w λe w'=>e= .returned (.tuple #[])/\MG O w μ' w':=by
 obtain⟨n,h1,h2⟩:=Fi hv;have hn:=aU h1 (by omega);by_cases hz:n=0
 case pos=>rw[if_pos hz]at h2;cases h2
 rw[if_neg hz]at h2;have HL:=Fh (oq h n h1);have HS:=Fh (λW (hg:MG O w μ W)=>bf hg.has 15 (n-1) μ' (by omega) h2);have FE:=Fh (MG.refl h);obtain⟨k,hk⟩:=Fp (n-1);rw[<-hk]at HS;have r1:IntKind.u64.wrap (k:Int)=(k:Int):=by rw[IntKind.wrap_u64];omega
 have r2:IntKind.i64.wrap ((n:Int)+ -1)=(k:Int):=by rw[IntKind.wrap_i64];omega
 clear h hv h1 h2 hk;go_in;go_wp2_with fail;refine HL.o.mono ?_;rintro e w1⟨rfl,hg⟩;have FA:=Fh (FE.o.trans hg);clear hg;go_wp2_with fail;refine(HS.o _ FA.o).mono ?_;rintro e w2⟨rfl,hg⟩;have FK:=Fh (FA.o.trans hg);clear hg;go_wp2;go_end0;exact⟨rfl,FK.o⟩
theorem cq{t a:Nat}{b:Bk}(h:eD t a μ=some b):da a μ=some (b,0)/\b.tag=t:=by
 obtain⟨⟨b',e⟩,h1,h2⟩:=Fi h;dsimp only at h2;split at h2
 ·rename_i hc
  obtain rfl:=Fk h2;obtain⟨rfl,h3⟩:=hc;exact⟨h1,h3⟩
 ·cases h2
theorem mU(h:ao O μ w)(a:Nat)(b:Bk)(ha:a<4294967296)(hv:eD 1 a μ=some b):Calls prog 177 #[.pointer (some ⟨O.mb,0,none⟩),.int .i64 (a:Int)] w λe w'=>e= .returned (.int .i64 0)/\MG O w μ w':=by
 obtain⟨h1,ht⟩:=cq hv;have Ov:=Fh (rp h);have Gw:=λW (hg:MG O w μ W)=>gy hg.has a b 0 ha h1;unfold G0 at Gw;rw[ht]at Gw;have Gn:=Fh Gw;have FE:=Fh (MG.refl h);clear h hv h1 Gw ht;go_in;go_wp2_with fail;refine Ov.o.mono ?_;rintro e w1⟨rfl,hb⟩;have FA:=Fh (FE.o.below hb);clear hb;go_wp2_with fail;refine(Gn.o _ FA.o).mono ?_;rintro e w2⟨rfl,hg⟩;have FK:=Fh (FA.o.trans hg);clear hg;go_wp2;go_ret;exact⟨rfl,FK.o.alloc _⟩
theorem BM(h:ao O μ w)(v:Nat)(hv:μ.root 13=some v):Calls prog 375 #[.pointer (some ⟨O.mb,0,none⟩)] w λe w'=>e= .returned (.int .i64 (v:Int))/\MG O w μ w':=by
 have HP:=Fh (λW (hg:MG O w μ W)=>o8 hg.has 13 v (by omega) (by omega) hv);have FE:=Fh (MG.refl h);clear h hv;go_in;go_wp2_with fail;refine(jt O.mb _).mono ?_;rintro e w1⟨rfl,hb⟩;have FA:=Fh (FE.o.below hb);clear hb;go_wp2_with fail;refine(HP.o _ FA.o).mono ?_;rintro e w2⟨rfl,hg⟩;have FK:=Fh (FA.o.trans hg);clear hg;go_wp2;go_ret;exact⟨rfl,FK.o⟩
end
section
variable{O:av}{μ:Mm}{w:World}{qb f:Nat}{W:World}
theorem BN(h:ao O μ w)(f a:Nat)(μ':Mm)(hf:f<21)(IT:f≠16)(hv:Vx f μ=some (a,μ')):Calls prog 198 #[.agg #[.pointer (some ⟨O.mb,0,none⟩),.int .i64 (f:Int)]] w λe w'=>e= .returned (.int .i64 (a:Int))/\MG O w μ' w':=by
 obtain⟨a',h1,hv⟩:=Fi hv;have I7:=aU h1 IT;obtain⟨w0,Fx,hq⟩:=kj h f;have Tp:=Fh (λW (hs:QG O w w.heap.size f μ W)=>hs.on_ (o8 hs.mg.has f a' hf IT h1));have PE:=Fh hq;obtain⟨_,x0,x1⟩:=hq.held;by_cases h0:a'=0
 ·rw[if_pos h0]at hv;have hv:=Fk hv;obtain⟨rfl,rfl⟩:a'=a/\μ=μ':=⟨congrArg Prod.fst hv,congrArg Prod.snd hv⟩;have c0:((a':Int) !=0)=false:=by rw[h0];rfl
  clear h h1 hv hq h0;go_in;go_upto_region 1 with fail;rw[<-Fx];clear Fx;go_wp2_with fail;refine(Tp.o _ PE.o).mono ?_;rintro e w1⟨rfl,Jm⟩;have HQ1:=Fh Jm;clear Jm;go_wp2;go_ret;exact⟨rfl,HQ1.o.mg⟩
 ·rw[if_neg h0]at hv;obtain⟨n,h2,hv⟩:=Fi hv;obtain⟨m1,h3,hv⟩:=Fi hv;have hv:=Fk hv;obtain⟨rfl,rfl⟩:a'=a/\m1=μ':=⟨congrArg Prod.fst hv,congrArg Prod.snd hv⟩;have c0:((a':Int) !=0)=true:=by rw[bne_iff_ne];omega
  have Ke:=Fh (λW (hs:QG O w w.heap.size f μ W)=>hs.on_ (hG hs.mg.has a' n I7 h2));have NB:=Fh (λW (hs:QG O w w.heap.size f μ W)=>hs.on_ (iG hs.mg.has f n m1 hf IT h3));obtain⟨qb,MN⟩:=Fp w.heap.size;rw[<-MN]at Tp PE Ke NB x0 x1;clear h h1 h2 h3 hv hq h0;go_in;go_upto_region 1 with fail;rw[<-Fx,<-MN];clear Fx MN;go_wp2_with fail;refine(Tp.o _ PE.o).mono ?_;rintro e w1⟨rfl,Jm⟩;have HQ1:=Fh Jm;clear Jm x0 x1;obtain⟨_,x0,x1⟩:=HQ1.o.held;have IU:=HQ1.o.drew;go_wp2_with fail
  go_region_held3 (λw'=>aa (au O) w w'/\w'.cell? ⟨qb,0,none⟩=some (.pointer (some ⟨O.mb,0,none⟩))/\w'.cell? ⟨qb,1,none⟩=some (.int .i64 (f:Int)))
   (first|assumption|exact QG.held (by assumption))
   (first
    |((go_at_call 178;refine(Ke.o _ (by assumption)).mono ?_);rintro e w3 ⟨rfl,Il⟩)
    |((go_at_call 72;refine(NB.o _ (by assumption)).mono ?_);rintro e w4 ⟨rfl,Nf⟩))
  have O9:Hid (QG O w qb f m1 _):=Fh (by assumption);clear IU x0 x1;go_wp2;go_ret;exact⟨rfl,O9.o.mg⟩
theorem BO(h:ao O μ w)(a:Nat)(μ':Mm)(hv:Vx 13 μ=some (a,μ')):Calls prog 364 #[.pointer (some ⟨O.mb,0,none⟩)] w λe w'=>e= .returned (.int .i64 (a:Int))/\MG O w μ' w':=by
 have HP:=Fh (λW (hg:MG O w μ W)=>BN hg.has 13 a μ' (by omega) (by omega) hv);have FE:=Fh (MG.refl h);clear h hv;go_in;go_wp2_with fail;refine(jt O.mb _).mono ?_;rintro e w1⟨rfl,hb⟩;have FA:=Fh (FE.o.below hb);clear hb;go_wp2_with fail;refine(HP.o _ FA.o).mono ?_;rintro e w2⟨rfl,hg⟩;have FK:=Fh (FA.o.trans hg);clear hg;go_wp2;go_ret;exact⟨rfl,FK.o⟩
theorem zN(h:ao O μ w)(a:Nat)(μ':Mm)(hv:Vx 14 μ=some (a,μ')):Calls prog 107 #[.pointer (some ⟨O.mb,0,none⟩)] w λe w'=>e= .returned (.int .i64 (a:Int))/\MG O w μ' w':=by
 have HP:=Fh (λW (hg:MG O w μ W)=>BN hg.has 14 a μ' (by omega) (by omega) hv);have FE:=Fh (MG.refl h);clear h hv;go_in;go_wp2_with fail;refine(rq O.mb _).mono ?_;rintro e w1⟨rfl,hb⟩;have FA:=Fh (FE.o.below hb);clear hb;go_wp2_with fail;refine(HP.o _ FA.o).mono ?_;rintro e w2⟨rfl,hg⟩;have FK:=Fh (FA.o.trans hg);clear hg;go_wp2;go_ret;exact⟨rfl,FK.o⟩
theorem nQ(h:ao O μ w)(fr tw:Nat)(μ':Mm)(RN:tw<4294967296)(hv:gT fr tw μ=some μ'):Calls prog 179 #[.pointer (some ⟨O.mb,0,none⟩),.int .i64 (fr:Int),.int .i64 (tw:Int)] w λe w'=>e= .returned (.tuple #[])/\MG O w μ' w':=by
 obtain⟨r0,h1,hv⟩:=Fi hv;obtain⟨m1,h2,hv⟩:=Fi hv;obtain⟨r1,h3,h4⟩:=Fi hv;have Hz:∃GC:Nat->Mm,GC 0=μ/\GC 1=m1/\GC 2=μ':=⟨λi=> [μ,m1,μ'].getD i μ',rfl,rfl,rfl⟩;obtain⟨T,t0,t1,t2⟩:=Hz;have QO:Hid (∃r,(T 0).root 13=some r/\(if r=fr then(T 0).FG 13 tw else some (T 0))=some (T 1)):=Fh ⟨r0,by rw[t0];exact h1,by rw[t0,t1];exact h2⟩;have RF:Hid (∃r,(T 1).root 14=some r/\(if r=fr then(T 1).FG 14 tw else some (T 1))=some (T 2)):=Fh ⟨r1,by rw[t1];exact h3,by rw[t1,t2];exact h4⟩;have ND:=Fh t0;have SB:=Fh t2;have HH:=Fh h;clear h hv h1 h2 h3 h4 t0 t1 t2;go_in;go_wp2_with fail;refine(oQ O.mb _).mono ?_;rintro e w2⟨g,rfl,YP,Kt,FF⟩;have Gx:=Fh FF;have FE:Hid (MG O w2 (T 0) w2):=Fh (by rw[ND.o];exact MG.refl (HH.o.below FF));have Sk:=Fh Kt;have HNG:=Fh (HH.o.Fu YP);clear YP Kt FF;go_wp2_with fail
 go_loopw [7,11] (λ_ La wr=>∃i:Nat,i<=2/\La= .int .i64 i/\Hid (MG O w2 (T i) wr)) (λ_ La _=>match La with| .int _ m=>2-m.toNat|_=>0)
 case atStart=>exact⟨0,by omega,rfl,FE⟩
 case round=>
  obtain⟨i,hi,rfl,HG⟩:=hrel;have hw:=HG.o.kept.whole Sk.o HNG.o;have hcs:i=0\/i=1\/i=2:=by omega
  rcases hcs with rfl|rfl|rfl
  ·have d0:=hw.cell 0;have d1:=hw.cell 1;simp only [List.getElem?_toArray,List.getElem?_cons_zero,List.getElem?_cons_succ]at d0 d1;obtain⟨r,h1,h2⟩:=QO.o;obtain⟨w3,F7,Jw⟩:=kj HG.o.has 13;rw[show((13:Nat):Int)=13 from rfl]at F7;have LJ:=Fh Jw;have Tp:=Fh (o8 Jw.mg.has 13 r (by omega) (by omega) h1);obtain⟨_,x0,x1⟩:=Jw.held;rw[show((13:Nat):Int)=13 from rfl]at x1;obtain⟨qb,MN⟩:=Fp wr.heap.size;rw[<-MN]at LJ x0 x1;by_cases hr:r=fr
   ·rw[if_pos hr]at h2;have c0:((r:Int)==(fr:Int))=true:=by rw[hr];simp
    have NB:=Fh (λW (hg:ao O (T 0) W)=>iG hg 13 tw (T 1) (by omega) (by omega) h2);clear hw Jw h1 h2 hr;go_upto_region 3 with fail;rw[<-F7,<-MN];clear F7 MN;go_wp2_with fail;refine Tp.o.mono ?_;rintro e w4⟨rfl,F9⟩;have O9:=Fh (LJ.o.on F9);clear F9 x0 x1;obtain⟨_,x0,x1⟩:=O9.o.held;rw[show((13:Nat):Int)=13 from rfl]at x1;go_wp2_with fail;refine(NB.o _ O9.o.mg.has).mono ?_;rintro e w5⟨rfl,IB⟩;have Um:=Fh (O9.o.on IB);clear IB x0 x1;go_wp2;go_roundw
    case rel=>exact⟨1,by omega,rfl,Fh (HG.o.trans Um.o.mg)⟩
    case measure=>simp
   ·rw[if_neg hr]at h2;have e2:=Fk h2;have c0:((r:Int)==(fr:Int))=false:=by rw[Fo];omega
    have Pu:=Fh e2;clear hw Jw h1 h2 hr e2;go_upto_region 3 with fail;rw[<-F7,<-MN];clear F7 MN;go_wp2_with fail;refine Tp.o.mono ?_;rintro e w4⟨rfl,F9⟩;have O9:=Fh (LJ.o.on F9);clear F9 x0 x1;go_wp2;go_roundw
    case rel=>exact⟨1,by omega,rfl,Fh (by rw[<-Pu.o];exact HG.o.trans O9.o.mg)⟩
    case measure=>simp
  ·have d0:=hw.cell 2;have d1:=hw.cell 3;simp only [List.getElem?_toArray,List.getElem?_cons_zero,List.getElem?_cons_succ]at d0 d1;obtain⟨r,h1,h2⟩:=RF.o;obtain⟨w3,F7,Jw⟩:=kj HG.o.has 14;rw[show((14:Nat):Int)=14 from rfl]at F7;have LJ:=Fh Jw;have Tp:=Fh (o8 Jw.mg.has 14 r (by omega) (by omega) h1);obtain⟨_,x0,x1⟩:=Jw.held;rw[show((14:Nat):Int)=14 from rfl]at x1;obtain⟨qb,MN⟩:=Fp wr.heap.size;rw[<-MN]at LJ x0 x1;by_cases hr:r=fr
   ·rw[if_pos hr]at h2;have c0:((r:Int)==(fr:Int))=true:=by rw[hr];simp
    have NB:=Fh (λW (hg:ao O (T 1) W)=>iG hg 14 tw (T 2) (by omega) (by omega) h2);clear hw Jw h1 h2 hr;go_upto_region 3 with fail;rw[<-F7,<-MN];clear F7 MN;go_wp2_with fail;refine Tp.o.mono ?_;rintro e w4⟨rfl,F9⟩;have O9:=Fh (LJ.o.on F9);clear F9 x0 x1;obtain⟨_,x0,x1⟩:=O9.o.held;rw[show((14:Nat):Int)=14 from rfl]at x1;go_wp2_with fail;refine(NB.o _ O9.o.mg.has).mono ?_;rintro e w5⟨rfl,IB⟩;have Um:=Fh (O9.o.on IB);clear IB x0 x1;go_wp2;go_roundw
    case rel=>exact⟨2,by omega,rfl,Fh (HG.o.trans Um.o.mg)⟩
    case measure=>simp
   ·rw[if_neg hr]at h2;have e2:=Fk h2;have c0:((r:Int)==(fr:Int))=false:=by rw[Fo];omega
    have Pu:=Fh e2;clear hw Jw h1 h2 hr e2;go_upto_region 3 with fail;rw[<-F7,<-MN];clear F7 MN;go_wp2_with fail;refine Tp.o.mono ?_;rintro e w4⟨rfl,F9⟩;have O9:=Fh (LJ.o.on F9);clear F9 x0 x1;go_wp2;go_roundw
    case rel=>exact⟨2,by omega,rfl,Fh (by rw[<-Pu.o];exact HG.o.trans O9.o.mg)⟩
    case measure=>simp
  ·clear hw;go_wp2;go_end0;exact⟨rfl,by rw[<-SB.o];exact MG.after Gx.o HG.o⟩
theorem DA(h:ao O μ w)(a:Nat)(μ':Mm)(ha:a<4294967296)(hv:ji a μ=some μ'):Calls prog 174 #[.pointer (some ⟨O.mb,0,none⟩),.int .i64 (a:Int)] w λe w'=>e= .returned (.int .i64 0)/\MG O w μ' w':=by
 obtain⟨b,h1,hv⟩:=Fi hv;obtain⟨n,h2,hv⟩:=Fi hv;by_cases hn:n=0
 case neg=>rw[if_pos hn]at hv;cases hv
 rw[if_neg (λe=>e hn)]at hv;subst hn;obtain⟨r,h3,hv⟩:=Fi hv;obtain⟨m3,h4,h5⟩:=Fi hv;have LK:=aU h3 (by omega);have FE:=Fh (MG.refl h);have LH:=Fh (mU h a b ha h1);have LU:=λW (hg:MG O w μ W)=>hG hg.has a 0 ha h2;have Ke:=Fh LU;have Tp:=Fh (λW (hg:MG O w μ W)=>o8 hg.has 13 r (by omega) (by omega) h3);have Pa:=Fh (λW (hg:MG O w m3 W)=>EC hg.has μ' h5);have HH:=Fh h;by_cases h0:r=0
 ·rw[if_pos h0]at h4;obtain⟨m1,e1,h4⟩:=Fi h4;obtain⟨m2,e2,e3⟩:=Fi h4;have c0:((r:Int)==0)=true:=by rw[h0];rfl
  have HJO:=Fh (λW (hg:MG O w μ W)=>jC hg.has a a m1 ha ha e1);have Hz:∃GC:Nat->Mm,GC 0=m1/\GC 1=m2/\GC 2=m3:=⟨λi=> [m1,m2,m3].getD i μ',rfl,rfl,rfl⟩;obtain⟨T,t0,t1,t2⟩:=Hz;have QO:Hid ((T 0).FG 13 a=some (T 1)):=Fh (by rw[t0,t1];exact e2);have RF:Hid ((T 1).FG 14 a=some (T 2)):=Fh (by rw[t1,t2];exact e3);have ND:=Fh t0;have SB:=Fh t2;clear h hv h1 h2 h3 h4 h5 LU h0 e1 e2 e3 t0 t1 t2;go_in;go_wp2_with fail;refine LH.o.mono ?_;rintro e w1⟨rfl,hg⟩;have FA:=Fh (FE.o.trans hg);clear hg;go_wp2_with fail;refine(Ke.o _ FA.o).mono ?_;rintro e w2⟨rfl,hg⟩;have FK:=Fh (FA.o.trans hg);clear hg;go_wp2_with fail;refine(jt O.mb _).mono ?_;rintro e w3⟨rfl,hb⟩;have FT:=Fh (FK.o.below hb);clear hb;go_wp2_with fail;refine(Tp.o _ FT.o).mono ?_;rintro e w4⟨rfl,hg⟩;have FW:=Fh (FT.o.trans hg);clear hg;go_wp2_with fail;refine(HJO.o _ FW.o).mono ?_;rintro e w5⟨rfl,hg⟩;have Gj:=Fh (FW.o.trans hg);clear hg;go_wp2_with fail;refine(oQ O.mb _).mono ?_;rintro e w6⟨g,rfl,YP,Kt,I3⟩;have GP:Hid (MG O w (T 0) w6):=Fh (by rw[ND.o];exact Gj.o.below I3);have Sk:=Fh Kt;have HNG:=Fh (Gj.o.has.Fu YP);have HG60:Hid (MG O w6 (T 0) w6):=Fh (MG.refl GP.o.has);clear YP Kt I3;go_wp2_with fail
  go_loopw [8,31] (λ_ s31 wr=>∃i:Nat,i<=2/\s31= .int .i64 i/\Hid (MG O w6 (T i) wr)) (λ_ s31 _=>match s31 with| .int _ m=>2-m.toNat|_=>0)
  case atStart=>exact⟨0,by omega,rfl,HG60⟩
  case round=>
   obtain⟨i,hi,rfl,HG⟩:=hrel;have hw:=HG.o.kept.whole Sk.o HNG.o;have hcs:i=0\/i=1\/i=2:=by omega
   rcases hcs with rfl|rfl|rfl
   ·have d0:=hw.cell 0;have d1:=hw.cell 1;simp only [List.getElem?_toArray,List.getElem?_cons_zero,List.getElem?_cons_succ]at d0 d1;obtain⟨w3,F7,Jw⟩:=kj HG.o.has 13;rw[show((13:Nat):Int)=13 from rfl]at F7;have LJ:=Fh Jw;have NB:=Fh (iG Jw.mg.has 13 a (T 1) (by omega) (by omega) QO.o);obtain⟨_,x0,x1⟩:=Jw.held;rw[show((13:Nat):Int)=13 from rfl]at x1;obtain⟨qb,MN⟩:=Fp wr.heap.size;rw[<-MN]at LJ x0 x1;clear hw Jw;go_upto_region 12 with fail;rw[<-F7,<-MN];clear F7 MN;go_wp2_with fail;refine NB.o.mono ?_;rintro e w5⟨rfl,IB⟩;have Um:=Fh (LJ.o.on IB);clear IB x0 x1;go_wp2;go_roundw
    case rel=>exact⟨1,by omega,rfl,Fh (HG.o.trans Um.o.mg)⟩
    case measure=>simp
   ·have d0:=hw.cell 2;have d1:=hw.cell 3;simp only [List.getElem?_toArray,List.getElem?_cons_zero,List.getElem?_cons_succ]at d0 d1;obtain⟨w3,F7,Jw⟩:=kj HG.o.has 14;rw[show((14:Nat):Int)=14 from rfl]at F7;have LJ:=Fh Jw;have NB:=Fh (iG Jw.mg.has 14 a (T 2) (by omega) (by omega) RF.o);obtain⟨_,x0,x1⟩:=Jw.held;rw[show((14:Nat):Int)=14 from rfl]at x1;obtain⟨qb,MN⟩:=Fp wr.heap.size;rw[<-MN]at LJ x0 x1;clear hw Jw;go_upto_region 12 with fail;rw[<-F7,<-MN];clear F7 MN;go_wp2_with fail;refine NB.o.mono ?_;rintro e w5⟨rfl,IB⟩;have Um:=Fh (LJ.o.on IB);clear IB x0 x1;go_wp2;go_roundw
    case rel=>exact⟨2,by omega,rfl,Fh (HG.o.trans Um.o.mg)⟩
    case measure=>simp
   ·have Iv:Hid (MG O w m3 wr):=Fh (by rw[<-SB.o];exact GP.o.trans HG.o);clear hw;go_wp2_with fail;refine(Pa.o _ Iv.o).mono ?_;rintro e w8⟨rfl,hg⟩;have Ow:=Fh (Iv.o.trans hg);clear hg;go_wp2;go_ret;exact⟨rfl,Ow.o⟩
 ·rw[if_neg h0]at h4;obtain⟨p,e1,h4⟩:=Fi h4;obtain⟨m1,e2,e3⟩:=Fi h4;have I8:=me e1;have c0:((r:Int)==0)=false:=by rw[Fo];omega
  have HPR:=Fh (λW (hg:MG O w μ W)=>o9 hg.has r p LK e1);have Y1:=Fh (λW (hg:MG O w μ W)=>jC hg.has p a m1 I8 ha e2);have Y8:=Fh (λW (hg:MG O w m1 W)=>jC hg.has a r m3 ha LK e3);clear h hv h1 h2 h3 h4 h5 LU h0 e1 e2 e3;go_in;go_wp2_with fail;refine LH.o.mono ?_;rintro e w1⟨rfl,hg⟩;have FA:=Fh (FE.o.trans hg);clear hg;go_wp2_with fail;refine(Ke.o _ FA.o).mono ?_;rintro e w2⟨rfl,hg⟩;have FK:=Fh (FA.o.trans hg);clear hg;go_wp2_with fail;refine(jt O.mb _).mono ?_;rintro e w3⟨rfl,hb⟩;have FT:=Fh (FK.o.below hb);clear hb;go_wp2_with fail;refine(Tp.o _ FT.o).mono ?_;rintro e w4⟨rfl,hg⟩;have FW:=Fh (FT.o.trans hg);clear hg;go_wp2_with fail;refine(HPR.o _ FW.o).mono ?_;rintro e w5⟨rfl,hg⟩;have Gj:=Fh (FW.o.trans hg);clear hg;go_wp2_with fail;refine(Y1.o _ Gj.o).mono ?_;rintro e w6⟨rfl,hg⟩;have GP:=Fh (Gj.o.trans hg);clear hg;go_wp2_with fail;refine(Y8.o _ GP.o).mono ?_;rintro e w7⟨rfl,hg⟩;have Iv:=Fh (GP.o.trans hg);clear hg;go_wp2_with fail;refine(Pa.o _ Iv.o).mono ?_;rintro e w8⟨rfl,hg⟩;have Ow:=Fh (Iv.o.trans hg);clear hg;go_wp2;go_ret;exact⟨rfl,Ow.o⟩
theorem DB(h:ao O μ w)(a:Nat)(μ':Mm)(ha:a<4294967296)(hv:lO a μ=some μ'):Calls prog 103 #[.pointer (some ⟨O.mb,0,none⟩),.int .i64 (a:Int)] w λe w'=>e= .returned (.int .i64 0)/\MG O w μ' w':=by
 obtain⟨b,h1,hv⟩:=Fi hv;obtain⟨n,h2,hv⟩:=Fi hv;by_cases hn:n=0
 case pos=>rw[if_pos hn]at hv;cases hv
 rw[if_neg hn]at hv;obtain⟨m1,h3,hv⟩:=Fi hv;obtain⟨p,h4,hv⟩:=Fi hv;obtain⟨m2,h5,hv⟩:=Fi hv;obtain⟨m3,h6,hv⟩:=Fi hv;obtain⟨m4,h7,h8⟩:=Fi hv;have Qj:=jB h2;have I8:=me h4;obtain⟨tw,Q6⟩:=Fp (if n=a then 0 else n)
 rw[<-Q6]at h3;have ht4:tw<4294967296:=by rw[Q6];split<;>omega
 have FE:=Fh (MG.refl h);have LH:=Fh (mU h a b ha h1);have Ke:=Fh (λW (hg:MG O w μ W)=>hG hg.has a n ha h2);have HRE:=Fh (λW (hg:MG O w μ W)=>nQ hg.has a tw m1 ht4 h3);have HPR:=Fh (λW (hg:MG O w m1 W)=>o9 hg.has a p ha h4);have HJO:=Fh (λW (hg:MG O w m1 W)=>jC hg.has p n m2 I8 Qj h5);have HAL:=Fh (λW (hg:MG O w m2 W)=>zM hg.has a m3 m4 ha h6 h7);have Y9:=Fh (λW (hg:MG O w m4 W)=>BL hg.has μ' h8);have c0:((n:Int)==0)=false:=by rw[Fo];omega
 by_cases JT:n=a
 ·rw[if_pos JT]at Q6;subst Q6;have c1:((n:Int)==(a:Int))=true:=by rw[JT];simp
  clear h hv h1 h2 h3 h4 h5 h6 h7 h8 hn JT;go_in;go_wp2_with fail;refine LH.o.mono ?_;rintro e w1⟨rfl,hg⟩;have FA:=Fh (FE.o.trans hg);clear hg;go_wp2_with fail;refine(Ke.o _ FA.o).mono ?_;rintro e w2⟨rfl,hg⟩;have FK:=Fh (FA.o.trans hg);clear hg;go_wp2_with fail;refine(HRE.o _ FK.o).mono ?_;rintro e w3⟨rfl,hg⟩;have FT:=Fh (FK.o.trans hg);clear hg;go_wp2_with fail;refine(HPR.o _ FT.o).mono ?_;rintro e w4⟨rfl,hg⟩;have FW:=Fh (FT.o.trans hg);clear hg;go_wp2_with fail;refine(HJO.o _ FW.o).mono ?_;rintro e w5⟨rfl,hg⟩;have Gj:=Fh (FW.o.trans hg);clear hg;go_wp2_with fail;refine(HAL.o _ Gj.o).mono ?_;rintro e w6⟨rfl,hg⟩;have GP:=Fh (Gj.o.trans hg);clear hg;go_wp2_with fail;refine(Y9.o _ GP.o).mono ?_;rintro e w7⟨rfl,hg⟩;have Iv:=Fh (GP.o.trans hg);clear hg;go_wp2;go_ret;exact⟨rfl,Iv.o⟩
 ·rw[if_neg JT]at Q6;subst Q6;have c1:((tw:Int)==(a:Int))=false:=by rw[Fo];omega
  clear h hv h1 h2 h3 h4 h5 h6 h7 h8 hn JT;go_in;go_wp2_with fail;refine LH.o.mono ?_;rintro e w1⟨rfl,hg⟩;have FA:=Fh (FE.o.trans hg);clear hg;go_wp2_with fail;refine(Ke.o _ FA.o).mono ?_;rintro e w2⟨rfl,hg⟩;have FK:=Fh (FA.o.trans hg);clear hg;go_wp2_with fail;refine(HRE.o _ FK.o).mono ?_;rintro e w3⟨rfl,hg⟩;have FT:=Fh (FK.o.trans hg);clear hg;go_wp2_with fail;refine(HPR.o _ FT.o).mono ?_;rintro e w4⟨rfl,hg⟩;have FW:=Fh (FT.o.trans hg);clear hg;go_wp2_with fail;refine(HJO.o _ FW.o).mono ?_;rintro e w5⟨rfl,hg⟩;have Gj:=Fh (FW.o.trans hg);clear hg;go_wp2_with fail;refine(HAL.o _ Gj.o).mono ?_;rintro e w6⟨rfl,hg⟩;have GP:=Fh (Gj.o.trans hg);clear hg;go_wp2_with fail;refine(Y9.o _ GP.o).mono ?_;rintro e w7⟨rfl,hg⟩;have Iv:=Fh (GP.o.trans hg);clear hg;go_wp2;go_ret;exact⟨rfl,Iv.o⟩
end
theorem gJ{P:Program}{a:Act}{w:World}{Q:Exit->Act->World->Prop}{c rest:Code}(l:Nat)(J:Act->World->Prop)(μ:Act->World->Nat)(hf:findLabel c l=some (.seq .skip rest))
  (pass:∀a w,J a w->rest.wp P (Exit.jump l (λa' w'=>J a' w'/\μ a' w'<μ a w) Q) a w)
  (first:(∀a w,J a w->rest.wp P (Exit.jump l J Q) a w)->c.wp P (Exit.jump l J Q) a w):(Code.scope c).wp P Q a w:=
 wp_scope_jumps l J μ hf (first λa w h=>wp_mono (pass a w h) λe a' w' hq=>by
  cases e with
  |goto l'=>exact⟨hq.1,hq.2.1⟩
  |_=>exact hq) λa w h=>wp_seq (wp_skip (pass a w h))
theorem dY{arr:Array Value}{f:(Nat->Value)->Array Value}(h:arr=f (λi=>arr.getD i undef)):∃u,({tmps:=arr,defers:= []}:Act)= {tmps:=f u,defers:= []}:=⟨_,by rw[<-h]⟩
section
variable{O:av}{μ:Mm}{w:World}
theorem fQ{l:Nat}{J:Act->World->Prop}{Q:Exit->Act->World->Prop}{a:Act}{W:World}(h:Q .ret a W):Exit.jump l J Q .ret a W:=h
def rI(r:Option Nat):Int:=match r with|none=> -1|some i=>(i:Int)
structure Za(O:av)(μ:Mm)(w w0 wr:World)(hh:Nat)(F:Value):Prop where
 mg:MG O w μ wr
 t:Whole wr w.heap.size 136 #[.pointer (some ⟨O.mb,0,none⟩),.int .i64 (μ.slots:Int)]
 l:Whole wr (w.heap.size+1) 294 #[.int .u32 (hh:Int),F]
theorem Za.step{w0 wr W2:World}{hh:Nat}{F:Value}(h0:ao O μ w)(h:Za O μ w w0 wr hh F)(k:MG O wr μ W2):Za O μ w w0 W2 hh F:=
 ⟨h.mg.trans k,k.kept.whole h.t (h0.Fu (Fm _)),k.kept.whole h.l (h0.Fu (by omega))⟩
theorem uE(h:ao O μ w)(hh:Nat)(k:FuncId)(xs cp:Array Value)(is:Nat->Option Bool)(r:Option Nat)(XX:hh<4294967296)
  (hf:∀(v:Nat) (q:Bool) (W:World),MG O w μ W->v<4294967296->is v=some q->Calls prog k (xs.push (.int .i64 (v:Int))++cp) W λe w'=>e= .returned (.bool q)/\MG O W μ w')
  (he:∀(args:Array Value) (W:World),(callFunc k args).run prog W= .ok (.enter k args) W) (hv:lN hh is μ=some r):
  Calls prog 277 #[du O.mb μ.slots,.agg #[.int .u32 (hh:Int),.func (.func k) xs cp]] w λe w'=>e= .returned (.int .i64 (rI r))/\MG O w μ w':=by
 have G5:=h.cf;obtain⟨w1,FJ⟩:=Fp (w.alloc (.cells #[.pointer (some ⟨O.mb,0,none⟩),.int .i64 (μ.slots:Int)] 136));obtain⟨w0,Fx⟩:=Fp (w1.alloc (.cells #[.int .u32 (hh:Int),.func (.func k) xs cp] 294));have FN:Below w.heap.size w w1:=by rw[FJ];exact(Below.refl _ w).alloc (Fm _) _
 have FM:Below w1.heap.size w1 w0:=by rw[Fx];exact(Below.refl _ w1).alloc (Fm _) _
 have Nh:w1.heap.size=w.heap.size+1:=by rw[FJ];exact bI _ _
 have OC:Whole w1 w.heap.size 136 #[.pointer (some ⟨O.mb,0,none⟩),.int .i64 (μ.slots:Int)]:=by rw[FJ];exact Whole.new w _ _
 have RO:Whole w0 (w.heap.size+1) 294 #[.int .u32 (hh:Int),.func (.func k) xs cp]:=by rw[<-Nh,Fx];exact Whole.new w1 _ _
 have Q7:Hid (Za O μ w w0 w0 hh (.func (.func k) xs cp)):=Fh ⟨((MG.refl h).below FN).below FM,(aa.below FM λ_=>False).whole OC id,RO⟩;have HM:=Fh (λW=>uy (hh:Int) (μ.slots:Int) W (by omega) (by omega) (by omega) (by omega));rw[rz hh μ.slots (by omega)]at HM;have HH:=Fh h;unfold lN at hv;obtain⟨home,hho⟩:=Fp (hh%μ.slots);rw[<-hho]at HM hv;have hhl2:home<μ.slots:=by rw[hho];exact Nat.mod_lt _ (by omega)
 obtain⟨n,hn⟩:=Fp μ.slots;have hn8:μ.slots<=8192:=G5.2.2.1;have hn7:0<μ.slots:=by omega
 have hz:((μ.slots:Int)==0)=false:=by rw[Fo];omega
 have HV:=Fh hv;have HFF:=Fh hf;have TJ:w0.cell? ⟨w.heap.size,1,none⟩=some (.int .i64 (μ.slots:Int)):=Q7.o.t.cell 1;have Q5:w0.cell? ⟨w.heap.size+1,0,none⟩=some (.int .u32 (hh:Int)):=Q7.o.l.cell 0;clear h G5 FN FM Nh OC RO hv hf hho hn;go_in;go_upto_region 1 with fail;rw[<-FJ];rw[<-Fx];clear FJ Fx;refine gJ 0 (λa' wr=>∃(step:Nat),step<=μ.slots/\Hid (dF μ home is (μ.slots+1-step) step=some r)/\Hid (Za O μ w w0 wr hh (.func (.func k) xs cp))/\∃(u:Nat->Value),a'= {tmps:= #[du O.mb μ.slots,.agg #[.int .u32 (hh:Int),.func (.func k) xs cp],.pointer (some ⟨w.heap.size,0,none⟩),.pointer (some ⟨w.heap.size+1,0,none⟩),.int .i64 0,.int .i64 (home:Int),.int .i64 (step:Int),u 7,u 8,u 9,u 10,u 11,u 12,u 13,u 14,u 15,u 16,u 17,u 18,u 19,u 20,u 21,u 22,u 23,u 24,u 25,u 26,u 27,u 28,u 29,u 30,u 31,u 32,u 33,u 34,u 35,u 36,u 37,u 38,u 39,u 40,u 41],defers:= []}) (λ(a':Act) _=>match a'.tmps.getD 6 undef with| .int _ m=>μ.slots+1-m.toNat|_=>0) rfl ?_ ?_
 rotate_left
 ·intro PF;go_wp2_with fail;refine(HM.o _).mono ?_;rintro e w2⟨rfl,rfl⟩;go_wp2_with fail;go_step3
  rename_i hK
  refine hK _ _ (PF _ _ ⟨0,by omega,HV,Q7,?_⟩);exact dY rfl
 ·rintro a' wr ⟨step,Hz,HR,HI,u,rfl⟩;have x1:wr.cell? ⟨w.heap.size,1,none⟩=some (.int .i64 (μ.slots:Int)):=HI.o.t.cell 1;have x0:wr.cell? ⟨w.heap.size,0,none⟩=some (.pointer (some ⟨O.mb,0,none⟩)):=HI.o.t.cell 0;have hr:=HR.o;rw[show μ.slots+1-step=(μ.slots-step)+1 by omega,dF]at hr;by_cases hs:step=μ.slots
  ·rw[if_pos hs]at hr;have HE:Hid (r=none):=Fh (Fk hr).symm;have c:((step:Int)==(μ.slots:Int))=true:=by rw[hs];simp
   clear hr hs;go_wp2_with fail;refine fQ ?_;go_ret;exact⟨by rw[HE.o];rfl,HI.o.mg⟩
  ·rw[if_neg hs]at hr;have c:((step:Int)==(μ.slots:Int))=false:=by rw[Fo];omega
   obtain⟨b,h1,hr⟩:=Fi hr;have LY:=rA HI.o.mg.has (home+step) step b (by omega) h1;rw[show((home+step:Nat):Int)=(home:Int)+(step:Int)by omega]at LY;have LH:=Fh LY;cases b
   ·rw[if_neg (by simp)]at hr;obtain⟨v,h2,hr⟩:=Fi hr;obtain⟨q,h3,hr⟩:=Fi hr;have Ib:=λW (hg:MG O w μ W)=>fO hg.has (home+step) v (by omega) h2;simp only [show((home+step:Nat):Int)=(home:Int)+(step:Int)by omega]at Ib;have Gn:=Fh Ib;have Tl:=Fh (λW (hg:MG O w μ W)=>HFF.o v q W hg (l5 h2) h3);have Zb:=Fh hr;clear h1 h2 h3 LY Ib hr;go_wp2_with fail;refine LH.o.mono ?_;rintro e w3⟨rfl,hg⟩;have XY:=Fh (HI.o.step HH.o hg);have x1:w3.cell? ⟨w.heap.size,1,none⟩=some (.int .i64 (μ.slots:Int)):=XY.o.t.cell 1;have x0:w3.cell? ⟨w.heap.size,0,none⟩=some (.pointer (some ⟨O.mb,0,none⟩)):=XY.o.t.cell 0;have y1:w3.cell? ⟨w.heap.size+1,1,none⟩=some (.func (.func k) xs cp):=XY.o.l.cell 1;clear hg;have RI:IntKind.i64.wrap ((home:Int)+(step:Int))=(home:Int)+(step:Int):=IntWalk.i64_in _ (by omega);have Gu:MG O w μ w3.drew/\w3.drew.cell? ⟨w.heap.size,0,none⟩=some (.pointer (some ⟨O.mb,0,none⟩))/\w3.drew.cell? ⟨w.heap.size,1,none⟩=some (.int .i64 (μ.slots:Int))/\w3.drew.cell? ⟨w.heap.size+1,1,none⟩=some (.func (.func k) xs cp):=⟨XY.o.mg.drew,x0,x1,y1⟩;have T7:Hid (∀ {W W2:World},MG O w μ W/\W.cell? ⟨w.heap.size,0,none⟩=some (.pointer (some ⟨O.mb,0,none⟩))/\W.cell? ⟨w.heap.size,1,none⟩=some (.int .i64 (μ.slots:Int))/\W.cell? ⟨w.heap.size+1,1,none⟩=some (.func (.func k) xs cp)->MG O W μ W2->MG O w μ W2/\W2.cell? ⟨w.heap.size,0,none⟩=some (.pointer (some ⟨O.mb,0,none⟩))/\W2.cell? ⟨w.heap.size,1,none⟩=some (.int .i64 (μ.slots:Int))/\W2.cell? ⟨w.heap.size+1,1,none⟩=some (.func (.func k) xs cp)):=Fh (λh k=>⟨h.1.trans k,k.kept.cell h.2.1 (HH.o.Fu (Fm _)),k.kept.cell h.2.2.1 (HH.o.Fu (Fm _)),k.kept.cell h.2.2.2 (HH.o.Fu (by show _<=w.heap.size+1;omega))⟩);go_wp2_with fail
    go_region_held3 (λw'=>MG O w μ w'/\w'.cell? ⟨w.heap.size,0,none⟩=some (.pointer (some ⟨O.mb,0,none⟩))/\w'.cell? ⟨w.heap.size,1,none⟩=some (.int .i64 (μ.slots:Int))/\w'.cell? ⟨w.heap.size+1,1,none⟩=some (.func (.func k) xs cp))
     (first|exact Gu|assumption|exact T7.o (by assumption) (by assumption))
     (first
      |((go_at_call 186;with_reducible refine(Gn.o _ (And.left (by assumption))).mono ?_);rintro e w4 ⟨rfl,F9⟩)
      |((with_reducible refine(Tl.o _ (And.left (by assumption))).mono ?_);rintro e w5 ⟨rfl,IB⟩))
    have hh5:MG O w μ w5/\w5.cell? ⟨w.heap.size,0,none⟩=some (.pointer (some ⟨O.mb,0,none⟩))/\w5.cell? ⟨w.heap.size,1,none⟩=some (.int .i64 (μ.slots:Int))/\w5.cell? ⟨w.heap.size+1,1,none⟩=some (.func (.func k) xs cp):=by assumption
    have O3:MG O w3.drew μ w5:=MG.trans (w1:=w4) (by assumption) (by assumption);have HI5:Hid (Za O μ w w0 w5 hh (.func (.func k) xs cp)):=Fh ((XY.o.step HH.o (MG.refl XY.o.mg.has).drew).step HH.o O3);obtain⟨_,x0,x1,y1⟩:=hh5;clear O3 Gu;cases q
    ·rw[if_neg (by simp)]at Zb;have HRN:Hid (dF μ home is (μ.slots+1-(step+1)) (step+1)=some r):=Fh (by rw[show μ.slots+1-(step+1)=μ.slots-step by omega];exact Zb.o);go_wp2_with fail;go_step3;refine⟨rfl,⟨step+1,by omega,HRN,HI5,?_⟩,?_⟩
     ·exact dY rfl
     ·show μ.slots+1-_<μ.slots+1-_;simp;omega
    ·rw[if_pos rfl]at Zb;have HE:Hid (r=some ((home+step)%μ.slots)):=Fh (Fk Zb.o).symm;have hro:=λW=>iH O.mb μ.slots (home+step) W hn7 (by omega) (by omega);simp only [show((home+step:Nat):Int)=(home:Int)+(step:Int)by omega]at hro;have Qq:=Fh hro;clear hro Zb;go_wp2_with fail;refine(Qq.o _).mono ?_;rintro e w6⟨rfl,hb⟩;have GP:=Fh (HI5.o.mg.below hb);clear hb;go_wp2_with fail;refine fQ ?_;go_ret;exact⟨by rw[HE.o];rfl,GP.o⟩
   ·rw[if_pos rfl]at hr;have HE:Hid (r=none):=Fh (Fk hr).symm;clear hr h1 LY;go_wp2_with fail;refine LH.o.mono ?_;rintro e w3⟨rfl,hg⟩;have FT:=Fh (HI.o.mg.trans hg);clear hg;go_wp2_with fail;refine fQ ?_;go_ret;exact⟨by rw[HE.o];rfl,FT.o⟩
end
end Go.Proofs.YtifkphcaelafjaaGreatDoor
