/-
  Lemmas on the way to the row. No condition beyond their own.
-/
import Derived.ArgAppend
import Derived.Test.YtifkphcaelafjaaGreatDoorQ11
import Derived.Test.YtifkphcaelafjaaGreatDoorQ12
set_option maxHeartbeats 25600000
set_option maxRecDepth 100000
set_option linter.unusedVariables false
set_option linter.unusedSimpArgs false
namespace Go.Proofs.YtifkphcaelafjaaGreatDoor
open Tryz
open Go.RowKit Go.Colm Go.FC Go.Maps Go.Fy Go.Shelf Go.Rfk
attribute [local go_sem] Oper.semAt_some
section
variable{O:av}{μ:Mm}
theorem SE:(prog.info? 9).map (λi=>(i.zero,i.size,i.bytes))=some (some (.string ByteArray.empty),1,16):=by kernel_rfl
theorem xm{P:Program}{t e:TypeId}{s:Nat}(ht:P.underlying t=some (.slice e))(hs:∀w,(sizeOf e).run P w= .ok s w)(A:Option Addr)(n c:Nat)(h:n<=c)(w:World):
  (Instr.slice t (.slice A n c) none (some (.int .i64 (n:Int))) (some (.int .i64 (n:Int)))).run P w= .ok (.slice A n n) w:=by
 have e1:∀(y:Nat) (code:BoundsCode),n<=y->(Instr.sliceBound (.int .i64 (n:Int)) y code).run P w= .ok n w:=λy code h=>by
  rw[run_sliceBound w .i64 (n:Int) y code (by omega) (by omega)];simp
 have e3:∀q:Addr,q.add 0=q:=λq=>by
  cases q;simp only [Addr.add];split<;>simp_all
 have e4:A.map (λx=>x.add 0)=A:=by
  cases A
  ·rfl
  ·rw[Option.map_some,e3]
 simp[Instr.slice,run_underlying ht,Instr.sliceBounds,e1,h,hs,e4]
theorem DU(m:Nat)(A:Option Addr)(n c:Nat)(w:World)(hc:n<=c):CallsIn Fence.wide m prog 356 #[.slice A n c] w λe w'=>e= .returned (.slice A n n)/\w'=w:=by
 have UC:=λW=>xm (P:=prog) underlying80 sizeOf9 A n c hc W;refine(callsIn_wide (n:=m)).2 ?_;go_in;go_wp2;go_ret;exact⟨rfl,rfl⟩
theorem Ct(n:Nat)(hn:16<=n)(w:World)(h:ao O μ w)(a:Nat)(ls:List (List UInt8))(ha:a<4294967296)(hv:mL a μ=some ls)(hl:ls.length<=100000):
  CallsIn Fence.wide n prog 336 #[.pointer (some ⟨O.mb,0,none⟩),.int .i64 (a:Int)] w λe w'=>∃A,e= .returned (.tuple #[.slice A ls.length ls.length,.int .i64 0])/\aM w' A (fN ls)/\(∀q,A=some q->w.heap.size<=q.block)/\MG O w μ w':=by
 obtain⟨_,h1,h2⟩:=Fi hv;obtain⟨ps,h3,h4⟩:=vj h2;have Tl:=Fh (λm=>(callsIn_wide (n:=m)).2 (EJ h a ha (by rw[h1];rfl)));have HH:=Fh h;refine callsIn_of_wp_marks func336 rfl trivial ?_ rfl;simp only [ntmps336,List.size_toArray,List.length_cons,List.length_nil,Nat.reduceAdd,Nat.reduceSub,Array.replicate_succ,Array.replicate_zero,List.push_toArray,List.append_toArray,List.nil_append,List.cons_append];clear hv h1 h2
 gi_wp2
 refine⟨trivial,λ_=>by omega,(Tl.o _).mono ?_⟩;rintro e w1⟨rfl,Gz⟩;have FA:=Fh Gz;clear Gz
 gi_wp2
 refine⟨trivial,λ_=>by omega,(Cr _ _ _ _).mono ?_⟩;rintro e w1'⟨rfl,hw1'⟩
 gi_wp2
 clear hw1';obtain⟨B,hB⟩:=Fp w1.heap.size;obtain⟨w2,FL⟩:=Fp ((w1.alloc (.cells #[.slice none 0 0] 80)).alloc (.cells #[.pointer (some ⟨O.mb,0,none⟩),.int .i64 (a:Int)] 150));have IU:w2.heap.size=B+1+1:=by rw[FL,hB];simp
 have hwB:w.heap.size<=B:=by rw[hB];exact FA.o.kept.size
 have PP:hQ O (B+1) a w2:=by
  rw[hB,FL];have:=Whole.new (w1.alloc (.cells #[.slice none 0 0] 80)) 150 #[.pointer (some ⟨O.mb,0,none⟩),.int .i64 (a:Int)];unfold hQ;simpa only [World.size_alloc]using this
 have h0:UM O μ w B (B+1) [] w2:=by
  refine⟨?_,by omega,⟨a,PP⟩,none,0,0,rfl,?_,World.ownsRow_nil _ _ _ _⟩
  ·rw[FL];exact(FA.o.alloc _).alloc _
  ·rw[hB,FL];exact((aa.refl (λ_=>False) _).alloc _).whole (Whole.new w1 80 #[.slice none 0 0]) id
 rw[<-hB,<-FL];have HB:Hid (w1.heap.size=B/\w.heap.size<=B):=Fh ⟨hB.symm,hwB⟩;have Lb:=Fh IU;obtain⟨i0,hi,G9,G8,G7⟩:=info_parts SE;have Ho:ps.length=ls.length:=by rw[<-h4,List.length_map]
 have HL:=Fh (show ps.length<=100000 by omega);have VR:=Fh h4;clear FL h hB hl Ho;refine nj rfl (by omega) (gf:=365) (lb:= #[.pointer (some ⟨B+1,0,none⟩)]) rfl trivial (enters_of func365 (by kernel_rfl) rfl)
  (Aq (n-1) (by omega) (B+1) a _ ps ha h3)
  (λA C k o hg hk ho hc=> ?keeps) (λA C l o1 o2 o3 o4 hA h1 hC h3 hk a hE=> ?kp) (λ_=>rfl)
  (λpre W=>UM O μ w B (B+1) pre W)
  (λe pre W=>False)
  ?hR (λpre A C hA k=>hA.step HH.o k) (λe pre A C hA k=>hA)
  (λpre A k o o' hA hk ho hc=>hA.put HH.o (by have:=HB.o;have:=Lb.o;omega) ho hc) (λe pre A k o o' hA hk ho hc=>hA)
  (λo o' _ _=>h0.kept ((h0.mg.alloc _).alloc _) (((aa.refl (λ_=>False) w2).alloc _).alloc _) ⟨a,(((aa.refl (λ_=>False) w2).alloc _).alloc _).whole PP id⟩ λ_ _ _ _ _ _ e=>e.elim)
  (λo o' _ _=>(((aa.refl (λ_=>False) w2).alloc _).alloc _).whole PP id)
  (λx=> {tmps:= #[.pointer (some ⟨O.mb,0,none⟩),.int .i64 (a:Int),undef,undef,.slice none 0 0,.int .i64 0,.int .i64 0,.pointer (some ⟨B,0,none⟩),undef,.string ⟨x.2.toArray⟩,.pointer (some ⟨O.mb,0,none⟩),.int .i64 (a:Int),.int .i64 0,.int .i64 0,.bool false,undef,.pointer (some ⟨O.mb,0,none⟩),.int .i64 (a:Int),.agg #[.pointer (some ⟨O.mb,0,none⟩),.int .i64 (a:Int)],
    .func (.func 365) #[] #[.pointer (some ⟨B+1,0,none⟩)],.int .i64 (x.1:Int),.string ⟨x.2.toArray⟩,undef,undef,undef,undef,undef,undef],defers:= []})
  ?assign ?body ?done ?stop
 case keeps=>
  obtain⟨k1,k2,⟨a1,k3⟩,_⟩:=hg;refine(k2.block k (Array.getElem?_eq_some_iff.1 ho).1 (λe=> ?_)).trans ho;rcases e with e|e
  ·exact HH.o.Fu (by have:=HB.o;have:=Lb.o;omega) e
  ·subst e;unfold hQ Whole at k3;rw[k3]at ho;cases ho;cases hc
 case kp=>
  have hne:∀ {W:World} {o:Obj} {v:Nat},W.heap[l]? =some o->o.isCells=false->hQ O (B+1) v W->B+1≠l:=λh5 h6 h7 e=>by
   subst e;unfold hQ Whole at h7;rw[h7]at h5;cases h5;cases h6
  have k1:aa (λk=>k=l) A (A.putObj l o2):=(aa.grown (grownBy_putObj' A l o2)).mono λk _ e=>(Fk e).symm;have k2:aa (λk=>k=l) C (C.putObj l o4):=(aa.grown (grownBy_putObj' C l o4)).mono λk _ e=>(Fk e).symm;have e1:=hk a (k1.whole hE (hne hA h1 hE));exact k2.whole e1 (hne hC h3 e1)
 case hR=>
  rintro pre A h2;exact⟨h2.mg.has,HH.o.Fu h2.ge.2.1⟩
 case assign=>
  intro k x W K hK
  gi_wp2
  exact hK
 case body=>
  rintro k pre x W hI⟨r,hr⟩;have HI:=Fh hI;obtain⟨A',n',c',Pb,JD,Gq⟩:=hI.x0;have y0:W.cell? ⟨B,0,none⟩=some (.slice A' n' c'):=JD.cell 0;have hlen:n'<=100000:=by
   have h1:=congrArg List.length hr;have h2:=HL.o;rw[List.length_append,List.length_cons]at h1;omega
  obtain⟨sv,Zl⟩:∃sv:ByteArray,sv=⟨x.2.toArray⟩:=⟨_,rfl⟩;rw[<-Zl];have HSV:=Fh Zl;have HO:=Fh (World.ownsRow.alloc Gq (.cells #[.string sv] 9));have HO0:=Fh Gq;have QV:=Fh JD;have Ue:=Fh Pb;have HC:Hid (∀(j:Nat) (u:Value),[Value.string sv][j]? =some u->(W.alloc (.cells #[.string sv] 9)).cell? ((⟨W.heap.size,0,none⟩:Addr).add j)=some u):=Fh λj u hj=>by
   rw[Addr.add_lit,Nat.zero_add,Whole.cell (Whole.new W _ _),List.getElem?_toArray];exact hj
  have HWS:Hid (w.heap.size<=(W.alloc (.cells #[.string sv] 9)).heap.size):=Fh (by rw[World.size_alloc];exact Nat.le_succ_of_le HI.o.mg.kept.size);clear hI JD Gq hr Pb Zl;gi_wp2_with (gi_at_builtin;refine wpListIn_append_own _ rfl _ _ 80 rfl w.heap.size 9 i0 (.string ByteArray.empty) 1 16 underlying80 hi G9 G8 G7 rfl (by decide) (.slice A' n' c') n' (fN (pre.map Prod.snd)) rfl HO.o ⟨W.heap.size,0,none⟩ 1 1 [.string sv] rfl rfl HC.o (λu hu=>by simp at hu;subst hu;rfl) (by unfold maxLen;omega) (by omega) HWS.o ?_;intro v' w3 Nj FZ _;obtain⟨z1,z2,z3,z4,z5⟩:=Boxed.appended (B:=B) (t:=80) QV.o (by decide) HO0.o HI.o.mg.kept.size (by have:=HB.o;omega) Nj FZ;have VA:=Fh z1;have HZ2:=Fh z2;have SC:=Fh z3;have HZ4:=Fh z4;have Rk:=Fh z5;have FT:=Fh FZ;have y3:w3.cell? ⟨B,0,none⟩=some (.slice A' n' c'):=Whole.cell (cs:= #[.slice A' n' c']) z1 0;have f3:w3.frozen? ⟨B,0,none⟩=false:=Whole.frozen (cs:= #[.slice A' n' c']) z1 0;obtain⟨A3,c3,GM⟩:=aw Nj;subst GM;clear Nj FZ z1 z2 z3 z4 z5);have k5:aa (λk=>w.heap.size<=k) W (w3.setCell ⟨B,0,none⟩ (.slice A3 (n'+1) c3)):=⟨Rk.o.os,Rk.o.tape,Rk.o.output,Rk.o.size,λk hl hn=>Rk.o.block k (by omega)⟩;have Pq:∀v,hQ O (B+1) v W->hQ O (B+1) v (w3.setCell ⟨B,0,none⟩ (.slice A3 (n'+1) c3)):=λv hv=>by
   have QM:=((aa.refl (λ_=>False) W).alloc (.cells #[.string sv] 9)).whole hv id;have F7:=(aa.grown FT.o).whole QM (aA HO.o QM (by decide));exact((aa.refl (λk=>k=B) w3).setCell (p:=⟨B,0,none⟩) (.inl rfl) (.slice A3 (n'+1) c3)).whole F7 (by omega)
  refine⟨HZ4.o.from _,Pq,MG.beside HH.o HI.o.mg k5 (λk e=>e),HI.o.ge,HI.o.xb.imp Pq,A3,n'+1,c3,by rw[List.length_append,<-Ue.o];rfl,HZ2.o,?_⟩;rw[List.map_append,List.map_cons,List.map_nil,zG,<-HSV.o];exact SC.o
 case done=>
  rintro D xs W hD rfl hI hK;obtain⟨A',n',c',Pb,JD,Gq⟩:=hI.x0;have y0:W.cell? ⟨B,0,none⟩=some (.slice A' n' c'):=JD.cell 0;have HO:=Fh Gq;have HI:=Fh hI;have Ue:=Fh Pb;clear JD Gq hI Pb;have Ot:n'<=c':=by
   rcases HO.o.2 with⟨e1,e2⟩|⟨g,cap,Kb,e1,_,_,hle,_⟩
   ·omega
   ·injection e1 with _ _ e3;omega
  have HRW:Hid (aM W A' (fN ls)):=Fh (by
   obtain⟨A2,c2,e1,hr⟩:=eW HO.o;injection e1 with e2;subst e2;rw[VR.o]at hr;exact hr)
  have Gn:Hid (∀q,A'=some q->w.heap.size<=q.block):=Fh λq hq=>(aF HO.o (by rw[hq];rfl)).1;have Yh:Hid (n'=ls.length):=Fh (by rw[Ue.o,<-VR.o,List.length_map])
  gi_wp2
  refine⟨trivial,λ_=>by omega,(DU _ _ _ _ _ Ot).mono ?_⟩;rintro e w9⟨rfl,hw9⟩;have QR:=hw9.symm;subst QR;clear hw9
  gi_wp2
  refine⟨by simp,.inl ⟨_,_,rfl,run_takeDeferred hK,?_⟩⟩;have hk:aa (λk=>k=D) W (W.putObj D (.deferred none)):=(aa.grown (grownBy_putObj' W D _)).mono λk _ e=>(Fk e).symm;refine⟨_,(results_tmp2 (t:=4) (u:=5) rfl _ _ _).trans rfl,A',by rw[<-Yh.o];rfl,oD HRW.o hk λq hq e=> ?_,Gn.o,(HI.o.put HH.o (by have:=HB.o;have:=Lb.o;omega) hK rfl).mg⟩;have e1:D=q.block:=e.symm;rcases HO.o.2 with⟨e2,_⟩|⟨g,cap,Kb,e2,_,hh,_⟩
  ·rw[hq]at e2;cases e2
  ·injection e2 with e3;rw[hq]at e3;injection e3 with e4;rw[e1,e4]at hK;rw[hh]at hK;cases hK
 case stop=>
  rintro D e pre W hD _ hf hK;exact hf.elim
theorem Cu{w:World}(h:ao O μ w)(a:Nat)(ls:List (List UInt8))(ha:a<4294967296)(hv:mL a μ=some ls)(hl:ls.length<=100000):
  Calls prog 336 #[.pointer (some ⟨O.mb,0,none⟩),.int .i64 (a:Int)] w λe w'=>∃A,e= .returned (.tuple #[.slice A ls.length ls.length,.int .i64 0])/\aM w' A (fN ls)/\(∀q,A=some q->w.heap.size<=q.block)/\MG O w μ w':=
 (callsIn_wide (n:=16)).1 (Ct 16 (Fm _) w h a ls ha hv hl)
end
open Go.FP Go.Fz
section
variable{O:av}{μ:Mm}
theorem Cv{w:World}(h:ao O μ w)(a:Nat)(ls:List (List UInt8))(ha:a<4294967296)(hv:mL a μ=some ls)(hl:ls.length<=100000)(hw:FQ ls<1099511627776):
  Calls prog 288 #[.pointer (some ⟨O.mb,0,none⟩),.int .i64 (a:Int)] w λe w'=>e= .returned (.tuple #[.string ⟨(cY ls).1.toArray⟩,.int .i64 (cY ls).2])/\MG O w μ w':=by
 have HN:=Fh (Cu h a ls ha hv hl);have HT:=Fh (λW A (hr:aM W A (fN ls))=>BY ls A ls.length W hr (Fm _) hw);have FE:=Fh (MG.refl h);clear h hv hw;go_in;go_wp2_with fail;refine HN.o.mono ?_;rintro e w1⟨A,rfl,hr,_,hg⟩;have HT1:=Fh (HT.o _ _ hr);have FA:=Fh (FE.o.trans hg);clear hg hr;go_wp2_with fail;refine HT1.o.mono ?_;rintro e w2⟨rfl,hb⟩;have FK:=Fh (FA.o.below hb);clear hb;go_wp2;go_ret2;exact⟨rfl,FK.o⟩
end
theorem bW.at_{B:Nat}{w:World}{v:Value}{us:List Value}{l:List (List UInt8)}(h:bW B w v us l):∃A c,v= .slice A l.length c/\bG (λk=>B<=k/\k<w.heap.size) w A l:=by
 obtain⟨hl,ho,hr⟩:=h;obtain⟨A,c,rfl,Gh⟩:=eW ho;refine⟨A,c,rfl,λi x hx=> ?_⟩;have hi:i<us.length:=by
  have:=(List.getElem?_eq_some_iff.1 hx).1;omega
 have hu:=hr i us[i] x (by simp[hi]) hx;obtain⟨A',c',e,hrow'⟩:=eW hu;obtain⟨b,off,hA,hc⟩:=Gh i us[i] (by simp[hi]);refine⟨b,off,A',c',hA,aF ho (k:=b) (by rw[hA];rfl),by rw[hc,e],hrow',λq hq=> ?_⟩;subst hq;exact aF hu (k:=q.block) (by rw[e];rfl)
theorem PQ:∀l:List (List UInt8),l.length<=FQ l
 | []=>by simp
 |s::r=>by
  have:=PQ r;rw[List.length_cons,FQ];omega
theorem jG.QT{B B' rb:Nat}{T:TypeId}{cs:Array Value}{w w':World}{v:Value}{us:List Value}{l:List (List UInt8)}(h:jG B w v us l)(hB:B'<=B)(hw:Whole w rb T cs)(h1:T≠73)(h2:T≠5)(k:aa (λk=>k=rb) w w'):jG B' w' v us l:=by
 obtain⟨hl,⟨b,e,hb,QM⟩,hr⟩:=h;refine⟨hl,⟨b,e,by omega,k.whole QM (λe=>aE hw QM h1 e.symm)⟩,λi u x hu hx=>aj (aS (hr i u x hu hx) hB) k λj hj e=>aA (hr i u x hu hx) hw h2 (by rw[hj,e])⟩
theorem DV{w:World}{rb:Nat}{T:TypeId}{a0 a1 a2 a3 a4:Value}(h:Whole w rb T #[a0,a1,a2,a3,a4])(x0 x1 x2 x3 x4:Value):Whole (((((w.setCell ⟨rb,0,none⟩ x0).setCell ⟨rb,1,none⟩ x1).setCell ⟨rb,2,none⟩ x2).setCell ⟨rb,3,none⟩ x3).setCell ⟨rb,4,none⟩ x4) rb T #[x0,x1,x2,x3,x4]:=((((h.put 0 x0).put 1 x1).put 2 x2).put 3 x3).put 4 x4
theorem qG{w:World}{rb:Nat}{T:TypeId}{cs:Array Value}(h:Whole w rb T cs):w.frozen? ⟨rb,0,none⟩=false/\w.frozen? ⟨rb,1,none⟩=false/\w.frozen? ⟨rb,2,none⟩=false/\w.frozen? ⟨rb,3,none⟩=false/\w.frozen? ⟨rb,4,none⟩=false:=⟨h.frozen 0,h.frozen 1,h.frozen 2,h.frozen 3,h.frozen 4⟩
section
variable{O:av}{μ:Mm}{w:World}
structure IS(O:av)(μ:Mm)(w:World)(rb ab a:Nat)(b:Bk)(W:World):Prop where
 ag:AG O w ab a b μ W
 ZI:Whole W rb 249 #[.string ⟨#[]⟩,.int .u16 0,.slice none 0 0,.int .u64 0,.bool false]
 nr:¬au O rb
theorem IS.on{rb ab a:Nat}{b:Bk}{W W2:World}(h:IS O μ w rb ab a b W)(k:MG O W μ W2):IS O μ w rb ab a b W2:=⟨h.ag.on k,k.kept.whole h.ZI h.nr,h.nr⟩
theorem IS.below{rb ab a:Nat}{b:Bk}{W W2:World}(h:IS O μ w rb ab a b W)(k:Below W.heap.size W W2):IS O μ w rb ab a b W2:=h.on ((MG.refl h.ag.mg.has).below k)
theorem Cw(h:ao O μ w)(a:Nat)(it:It)(ha:a<4294967000)(hv:sQ a μ=some it):Calls prog 200 #[.pointer (some ⟨O.mb,0,none⟩),.int .i64 (a:Int)] w λe w'=>∃v us,e= .returned (.tuple #[.agg #[.string ⟨(cY it.name).1.toArray⟩,.int .u16 (it.typ:Int),v,.int .u64 (it.FB:Int),.bool (decide (it.used=1))],.int .i64 0])/\jG w.heap.size w' v us it.recs/\MG O w μ w':=by
 obtain⟨b,h1,F6⟩:=Fi hv;obtain⟨ls,h2,F0⟩:=Fi F6;by_cases hc:aI ls≠0
 ·rw[if_pos hc]at F0;cases F0
 rw[if_neg hc]at F0;have QU:aI ls=0:=by omega
 obtain⟨p,h3,GM⟩:=Fi F0;by_cases hu:(aP p).2≠0
 ·rw[if_pos hu]at GM;cases GM
 rw[if_neg hu]at GM;have Rl:(aP p).2=0:=by omega
 obtain rfl:=(Fk GM).symm;have Hb:=fL (cq h1).1;have hwi:=bQ QU;have KC:=nf h3;obtain⟨Iu,N0⟩:=jH Rl;obtain⟨w0,Fx⟩:=Fp (w.alloc (.cells #[.string ⟨#[]⟩,.int .u16 0,.slice none 0 0,.int .u64 0,.bool false] 249));have GK:MG O w μ w0:=by rw[Fx];exact(MG.refl h).alloc _
 have Gd:Whole w0 w.heap.size 249 #[.string ⟨#[]⟩,.int .u16 0,.slice none 0 0,.int .u64 0,.bool false]:=by rw[Fx];exact Whole.new w _ _
 obtain⟨rb,H9⟩:=Fp w.heap.size;rw[<-H9]at Gd;have Tx:¬au O rb:=by rw[H9];exact h.Fu (Fm _)
 have Gw:=ko GK.has a b (by omega) h1;have Tl:Hid (∀W,MG O w0 μ W->IS O μ w rb W.heap.size a b (W.alloc (.cells (JV O.mb a b) 167))):=Fh λW hg=>by
  have hb:Below W.heap.size W (W.alloc (.cells (JV O.mb a b) 167)):=(Below.refl _ _).alloc (Fm _) _;have hr:=hg.kept.whole Gd Tx;exact⟨⟨(GK.trans hg).alloc _,Whole.new W _ _,h.Fu (GK.trans hg).kept.size⟩,(hb.block _ hr.lt).trans hr,Tx⟩
 have GQ:=λW (hg:ao O μ W)=>Cv hg b.name ls Hb.name h2 (by have:=PQ ls;omega) (by omega);have hpk:=λW (hg:ao O μ W)=>pj hg a b p (by omega) h3;have Pa:=Fh (λW u (hb:gK W u p)=>m8 p u W hb Rl);have HTE:Hid ((cY ls).2=0):=Fh (by unfold cY;rw[if_pos QU];split<;>rfl);rw[HTE.o]at GQ;obtain⟨tx,ZJ⟩:∃tx:ByteArray,tx=⟨(cY ls).1.toArray⟩:=⟨_,rfl⟩;dsimp only;rw[<-ZJ];simp only [<-ZJ]at GQ;obtain⟨rs,ZK⟩:=Fp ((aP p).1);simp only [<-ZK]at Pa⊢;have PC:rs.length<1000/\∀x∈rs,x.length<1000:=by
  obtain⟨n',l',_,_,_,e16,_,_,_,e1,e2,_⟩:=ml (iK Rl).1;rw[ZK,(iK Rl).2,e1];refine⟨by rw[Iy,e2];simp;omega,λx hx=> ?_⟩;obtain⟨i,hi,rfl⟩:=List.getElem_of_mem hx;rw[Iy]at hi;have h9:=Ln (p.drop (2+2*l'.length)) l' 0 i l'[i] (((0:Nat)::l')[i]'(by simp;omega)) (by simp[hi]) (by simp);rw[Fl (by rw[Iy];exact hi)]at h9;rw[Fk h9,List.length_drop,List.length_take,List.length_drop];omega
 have GI:=λN W A c (hr:bG N W A rs)=>Ac N A c rs W (by omega) (λx hx=>by have:=PC.2 x hx;omega) hr;have GI:=λN W A c hr=>(GI N W A c hr).mono λe w' hq=>(by obtain⟨v,us,e1,h1,h2⟩:=hq;exact⟨v,e1,us,h1,h2⟩:∃v,e= .returned v/\∃us,jG W.heap.size w' v us rs/\Below W.heap.size W w');have JE:=Fh GI;have r1:IntKind.i64.wrap (b.name:Int)=(b.name:Int):=by
  have:=Hb.name;rw[IntKind.wrap_i64];omega
 have HH:=Fh h;have VR:=Fh KC;have TX:=Fh Iu;unfold JV at Tl Gw hpk;have Gn:=Fh Gw;have X5:=Fh GQ;have ZA:=Fh hpk;clear h hv F6 F0 GM h1 h2 h3 hc QU hu Rl Hb hwi KC Iu N0 GK Gd Tx Gw GQ hpk GI ZJ ZK PC;go_in;go_upto_region 1 with fail;rw[<-Fx,<-H9];clear Fx;have HRB:=Fh H9;clear H9;go_wp2_with fail;refine Gn.o.mono ?_;rintro e w1⟨rfl,hg⟩;have Lb:=Fh (Tl.o _ hg);clear hg;go_wp2_with fail;refine(X5.o _ Lb.o.ag.mg.has).mono ?_;rintro e w3⟨rfl,hg⟩;have Qv:=Fh (Lb.o.on hg);clear hg;obtain⟨ab,LD⟩:=Fp w1.heap.size;rw[<-LD]at Lb Qv;rw[<-LD];clear LD;obtain⟨_,y0,y1,y2,y3,y4,y5,y6,y7,y8,y9,Ic,Ie,Iw,Iq⟩:=Qv.o.ag.held;go_wp2_with fail;refine(ZA.o _ Qv.o.ag.mg.has).mono ?_;rintro e w4⟨u,rfl,WI,hg⟩;rw[<-VR.o]at WI;have HU4:=Fh (gK.own WI (by have:=TX.o;omega));have HS4:=Fh (Qv.o.on hg);clear hg WI y0 y1 y2 y3 y4 y5 y6 y7 y8 y9 Ic Ie Iw Iq;go_wp2_with fail;refine(Pa.o _ _ HU4.o).mono ?_;rintro e w5⟨v5,us5,rfl,NW,Io⟩;have Qr:=Fh (HS4.o.below Io);obtain⟨A5,c5,rfl,UN⟩:=NW.at_;have Qo:Hid (∀W,Below w5.heap.size w5 W->bG (λk=>w4.heap.size<=k/\k<w5.heap.size) W A5 rs):=Fh λW hb=>UN.below hb;clear Io NW UN;obtain⟨_,y0,y1,y2,y3,y4,y5,y6,y7,y8,y9,Ic,Ie,Iw,Iq⟩:=Qr.o.ag.held;obtain⟨n5,TM⟩:=Fp rs.length;simp only [<-TM]at JE;rw[<-TM];clear TM;have q5:Below w5.heap.size w5 w5.drew:=(Below.refl _ _).drew;go_upto_region 10 with fail;have IR:=Qr.o.ag.pt;have hne:ab≠rb:=aE IR Qr.o.ZI (by decide);have HI:Hid (∀w',aa (λk=>k=rb) w5 w'->aa (λk=>k=rb) w5 w'/\w'.cell? ⟨ab,2,none⟩=some (.bool (decide (b.used=1)))/\w'.cell? ⟨ab,8,none⟩=some (.int .u64 (b.FB:Int))/\w'.cell? ⟨ab,9,none⟩=some (.int .u16 (b.typ:Int))):=Fh λW hk=>by
  have h:=hk.whole IR hne;exact⟨hk,h.cell 2,h.cell 8,h.cell 9⟩
 have hrb4:rb<w4.heap.size:=HS4.o.ZI.lt;have HRA2:Hid (∀W,aa (λk=>k=rb) w5 W->bG (λk=>w4.heap.size<=k/\k<w5.heap.size) W A5 rs):=Fh λW hk=>(Qo.o _ (Below.refl _ _)).kept hk λk hk e=>by omega
 clear y0 y1 y2 y3 y4 y5 y6 y7 y8 y9 Ic Ie Iw Iq hne hrb4 IR;have Gu:=HI.o _ (aa.below q5 _)
 go_region_held3 (λw'=>aa (λk=>k=rb) w5 w'/\w'.cell? ⟨ab,2,none⟩=some (.bool (decide (b.used=1)))/\w'.cell? ⟨ab,8,none⟩=some (.int .u64 (b.FB:Int))/\w'.cell? ⟨ab,9,none⟩=some (.int .u16 (b.typ:Int)))
  (first|assumption|exact HI.o _ (aa.trans (And.left (by assumption)) (aa.below (by assumption) _))|exact HI.o _ (((((OB.1.setCell (p:=⟨rb,0,none⟩) (.inl rfl) _).setCell (p:=⟨rb,1,none⟩) (.inl rfl) _).setCell (p:=⟨rb,2,none⟩) (.inl rfl) _).setCell (p:=⟨rb,3,none⟩) (.inl rfl) _).setCell (p:=⟨rb,4,none⟩) (.inl rfl) _))
  (first
  |((go_at_call 289;refine(JE.o _ _ A5 c5 (HRA2.o _ (And.left (by assumption)))).mono ?_);rintro e w6 ⟨v6,rfl,us6,ho6,I3⟩;obtain⟨A6,NG,-⟩:=ho6.at_;subst NG;have PJ:=Fh (Qr.o.below (ah q5 I3));have OB:=HI.o _ (aa.below (ah q5 I3) _);obtain⟨z0,z1,z2,z3,z4⟩:=bt PJ.o.ZI;obtain⟨f0,f1,f2,f3,f4⟩:=qG PJ.o.ZI))
 go_wp2_with fail;refine bodyPost_ret (aB rfl _ _ rb 249 _ (0,0) _ rfl (DV PJ.o.ZI _ _ _ _ _) underlying249 rfl (by kernel_rfl)) rfl ?_;have k6:aa (λk=>k=rb) w6 (((((w6.setCell ⟨rb,0,none⟩ (.string tx)).setCell ⟨rb,1,none⟩ (.int .u16 (b.typ:Int))).setCell ⟨rb,2,none⟩ (.slice A6 rs.length rs.length)).setCell ⟨rb,3,none⟩ (.int .u64 (b.FB:Int))).setCell ⟨rb,4,none⟩ (.bool (decide (b.used=1)))):=
  (((((aa.refl (λk=>k=rb) w6).setCell (p:=⟨rb,0,none⟩) (.inl rfl) _).setCell (p:=⟨rb,1,none⟩) (.inl rfl) _).setCell (p:=⟨rb,2,none⟩) (.inl rfl) _).setCell (p:=⟨rb,3,none⟩) (.inl rfl) _).setCell (p:=⟨rb,4,none⟩) (.inl rfl) _
 have hwz:w.heap.size<=w5.drew.heap.size:=Qr.o.ag.drew.mg.kept.size;refine⟨_,us6,rfl,ho6.QT hwz PJ.o.ZI (by decide) (by decide) k6,?_⟩;exact MG.beside HH.o PJ.o.ag.mg k6 λk e=>by rw[e,HRB.o];exact Fm _
end
theorem nT(n m:Nat)(w:World):Calls prog 369 #[.int .i64 (n:Int),.int .i64 (m:Int),.int .i64 0] w λe w'=>e= .returned (.int .i64 (if n=0\/n≠m then 2 else 0))/\w'=w:=by
 by_cases h:n=0
 ·subst h;rw[if_pos (.inl rfl)];go_in;go_wp2;go_ret;exact⟨rfl,rfl⟩
 ·have h1:((n:Int)==0)=false:=by simp;omega
  have h2:¬((n:Int)=0):=by omega
  by_cases e:n=m
  ·subst e;rw[if_neg (by omega)];have h3:decide ((n:Int)<=0)=false:=decide_eq_false (by omega);have h4:¬((n:Int)<=0):=by omega
   have h5:((n:Int) !=(n:Int))=false:=by simp
   go_in;go_wp2;go_ret;exact⟨rfl,rfl⟩
  ·rw[if_pos (.inr e)];have h5:((n:Int) !=(m:Int))=true:=by simp;omega
   have h6:¬((n:Int)=(m:Int)):=by omega
   go_in;go_wp2;go_ret;exact⟨rfl,rfl⟩
def bp(l:List Bool):List Value:=l.map .bool
theorem lx(l:List Bool):(bp l).length=l.length:=List.length_map _
def bR(A:Option Addr)(l:List Bool)(B:Nat)(W:World):Prop:=∀(i:Nat) (x:Bool),l[i]? =some x->∃g o,A=some ⟨g,o,none⟩/\g<B/\W.cell? ⟨g,o+i,none⟩=some (.bool x)
theorem bR.kept{A:Option Addr}{l:List Bool}{B:Nat}{W W':World}(h:bR A l B W)(k:aa (λk=>B<=k) W W'):bR A l B W':=λi x hx=>by
 obtain⟨g,o,e,h1,h2⟩:=h i x hx;exact⟨g,o,e,h1,k.cell h2 (by show¬B<=g;omega)⟩
theorem N6:(prog.info? 4).map (λi=>(i.zero,i.size,i.bytes))=some (some (.bool false),1,1):=by kernel_rfl
theorem qH(A:Option Addr)(c:Nat)(x:List Bool)(B:Nat)(w:World)(TJ:x≠ [])(hx:x.length<1099511627776)(hr:bR A x B w):
  Calls prog 376 #[.slice A x.length c] w λe w'=>∃u,e= .returned u/\w'.ownsRow w.heap.size 4 1 u x.length (bp x)/\Below w.heap.size w w':=by
 obtain⟨i0,hi,G9,G8,G7⟩:=info_parts N6;have HR:=Fh hr;obtain⟨y,r,hyr⟩:∃y r,x=y::r:=by
  cases x with
  |nil=>exact absurd rfl TJ
  |cons y r=>exact⟨y,r,rfl⟩
 obtain⟨g,o,hA,_⟩:=hr 0 y (by rw[hyr];rfl);subst hA;have hl:=lx x;have HL:=Fh hl;clear hr hyr TJ hl;have q22:∀(w:World) (a:Option Addr) (n c n' c':Nat),(binOp .eql 65 (.slice a n c) (.slice none n' c')).run prog w= .ok (.bool a.isNone) w:=λw a n c n' c'=>Lib.run_eql_slice_nil w _ _ a n c n' c' underlying65;go_in;go_wp2_with (at_builtin;refine wpList_append_own _ rfl _ _ 65 rfl w.heap.size 4 i0 (.bool false) 1 1 underlying65 hi G9 G8 G7 rfl (by decide) _ _ _ rfl (World.ownsRow_made w #[] 0 (Fm _) (Nat.zero_le _) rfl) ⟨g,o,none⟩ x.length c (bp x) rfl ?qc1 ?qc2 ?qc3 ?qc4 ?qc5 ?qc6 ?_)
 case qc1=>rw[HL.o,Nat.mul_one]
 case qc2=>
  intro j u hu;obtain⟨z,hz,rfl⟩:∃z,x[j]? =some z/\ .bool z=u:=by
   unfold bp at hu;rw[List.getElem?_map]at hu;obtain⟨z,h1,h2⟩:=Option.map_eq_some_iff.1 hu;exact⟨z,h1,h2⟩
  obtain⟨g',o',e,_,hc⟩:=HR.o j z hz;cases e;rw[Addr.add_lit];exact Lib.cell?_alloc_some _ hc
 case qc3=>
  intro u hu;obtain⟨y,_,rfl⟩:=List.mem_map.1 hu;rfl
 case qc4=>unfold maxLen;omega
 case qc5=>omega
 case qc6=>simp
 intro v' w' Gq hg hnil;go_wp2;go_ret;refine⟨_,rfl,?_,?_⟩
 ·simpa using Gq
 ·exact((Below.refl _ w).alloc (Fm _) _).grown hg (by simp) (by intro k hk;simp[Value.ownBlock]at hk;omega)
structure WH(B wb:Nat)(vw vu:Value)(who:List Nat)(us:List Bool)(Ao:Option Addr)(co:Nat)(ov:List Bool)(W:World):Prop where
 pt:Whole W wb 391 #[vw,vu,.slice Ao ov.length co]
 ge:B<=wb
 ow:W.ownsRow B 3 1 vw who.length (aO who)
 ou:W.ownsRow B 4 1 vu us.length (bp us)
 ov:bR Ao ov B W
section
variable{B wb co:Nat}{vw vu:Value}{who:List Nat}{us ov:List Bool}{Ao:Option Addr}{w:World}
theorem xn(l:List Nat)(x:Nat):aO (l++ [x])=aO l++ [.int .i64 (x:Int)]:=by unfold aO;rw[List.map_append];rfl
theorem WH.kept{W':World}(h:WH B wb vw vu who us Ao co ov w)(k:aa (λ_=>False) w W'):WH B wb vw vu who us Ao co ov W':=
 ⟨k.whole h.pt id,h.ge,aj h.ow k λ_ _=>id,aj h.ou k λ_ _=>id,h.ov.kept (k.mono λ_ _ e=>e.elim)⟩
theorem WH.ZL{w3:World}{o:Obj}{v':Value}{x:Nat}(h:WH B wb vw vu who us Ao co ov w)(hB:B<=w.heap.size)(F3:w3.ownsRow B 3 1 v' (who.length+1) (aO who++ [.int .i64 (x:Int)]))(FZ:(w.alloc o).grownBy w3 vw.ownBlock):
  Whole w3 wb 391 #[vw,vu,.slice Ao ov.length co]/\WH B wb v' vu (who++ [x]) us Ao co ov (w3.setCell ⟨wb,0,none⟩ v')/\aa (λk=>B<=k) w (w3.setCell ⟨wb,0,none⟩ v'):=by
 have ka:aa (λ_=>False) w (w.alloc o):=(aa.refl _ _).alloc _;have h1:=h.kept ka;have kg:=aa.grown FZ;have F7:Whole w3 wb 391 #[vw,vu,.slice Ao ov.length co]:=kg.whole h1.pt (aA h1.ow h1.pt (by decide));have hne:v'.ownBlock≠some wb:=aA F3 F7 (by decide);have UD:w3.ownsRow B 4 1 vu us.length (bp us):=aj h1.ou kg λk hk e=>fq h1.ow h1.ou (by decide) hk e;have kk:aa (λk=>B<=k) w w3:=(ka.mono λ_ _ e=>e.elim).trans (kg.mono λk _ hk=>(aF h1.ow hk).1);have ks:aa (λk=>k=wb) w3 (w3.setCell ⟨wb,0,none⟩ v'):=(aa.refl (λk=>k=wb) w3).setCell (p:=⟨wb,0,none⟩) (.inl rfl) _;have kz:aa (λk=>B<=k) w (w3.setCell ⟨wb,0,none⟩ v'):=kk.trans (ks.mono λk _ e=>by rw[e];exact h.ge);refine⟨F7,⟨F7.put 0 v',h.ge,?_,?_,h.ov.kept kz⟩,kz⟩
 ·rw[xn,List.length_append];exact aj F3 ks λk hk e=>hne (by rw[hk,e])
 ·exact aj UD ks λk hk e=>aA UD F7 (by decide) (by rw[hk,e])
end
theorem iL(w:World)(x:Value)(T:TypeId):∀(j:Nat) (u:Value),[x][j]? =some u->(w.alloc (.cells #[x] T)).cell? ((⟨w.heap.size,0,none⟩:Addr).add j)=some u:=λj u hj=>by
 rw[Addr.add_lit,Nat.zero_add,Whole.cell (Whole.new w _ _),List.getElem?_toArray];exact hj
section
variable{B wb co cu:Nat}{vw vu:Value}{who:List Nat}{us ov:List Bool}{Ao Au:Option Addr}{w:World}
theorem Ar(hu:bR Au us w.heap.size w)(ho:bR Ao ov w.heap.size w)(h0:us≠ [])(hl:us.length<=100000):Calls prog 370 #[.slice Au us.length cu,.slice Ao ov.length co,.int .i64 0] w λe w'=>
  ∃wb vw vu,e= .returned (.pointer (some ⟨wb,0,none⟩))/\WH w.heap.size wb vw vu (List.range us.length) us Ao co ov w'/\Below w.heap.size w w':=by
 have JE:=Fh (qH Au cu us w.heap.size w h0 (by omega) hu);have HO:=Fh ho;obtain⟨i0,hi,G9,G8,G7⟩:=info_parts IN.2.1;obtain⟨B,hB⟩:=Fp w.heap.size;have HB:=Fh hB;obtain⟨n,hn⟩:=Fp us.length;have J0:0<n:=by rw[hn];exact List.length_pos_iff.2 h0
 rw[<-hn]at JE hl⊢;have HN:=Fh hn;have hz:¬((n:Int)=0):=by omega
 have hz2':¬(n=0):=by omega
 obtain⟨L,hL⟩:=Fp ov.length;clear hu ho h0 hB hn;go_in;go_wp2_with fail;refine JE.o.mono ?_;rintro e w1⟨vu,rfl,Gq,hb⟩;have k1:aa (λk=>B<=k) w w1:=aa.below hb _;have UO:w1.ownsRow B 4 1 vu us.length (bp us):=by rw[HB.o,<-HN.o];exact Gq
 obtain⟨wb,QM⟩:=Fp w1.heap.size;have hwB:B<=wb:=by rw[QM,HB.o];exact k1.size
 obtain⟨w2,FL⟩:=Fp (w1.alloc (.cells #[.slice none 0 0,vu,.slice Ao ov.length co] 391));have ka:aa (λ_=>False) w1 w2:=by rw[FL];exact(aa.refl _ _).alloc _
 have k2:aa (λk=>B<=k) w w2:=k1.trans (ka.mono λ_ _ e=>e.elim);have hWH:WH B wb (.slice none 0 0) vu [] us Ao co ov w2:=⟨by rw[FL,QM];exact Whole.new w1 _ _,hwB,dm _ _ _ _,aj UO ka λ_ _=>id,by have:=HO.o.kept (W':=w2) (by rw[<-HB.o];exact k2);rw[<-HB.o]at this;exact this⟩;have HW:=Fh hWH;have HK:=Fh k2;obtain⟨_,c,WV⟩:=aw UO;subst WV;clear Gq hb k1 UO ka k2 hWH;go_upto_region 3 with fail;rw[<-FL,<-QM];clear FL QM;go_wp2_with fail
 go_loopw [9,18] (λ_ T8 W=>∃(j:Nat) (vw:Value),j<=n/\T8= .int .i64 j/\Hid (WH B wb vw _ (List.range j) us Ao co ov W)/\Hid (aa (λk=>B<=k) w W)) (λ_ T8 W=>match T8 with| .int _ m=>n-m.toNat|_=>0)
 case atStart=>exact⟨0,_,Nat.zero_le _,rfl,HW,HK⟩
 case round=>
  obtain⟨j,vw,hj,rfl,HWJ,WW⟩:=hrel;by_cases FR:j<n
  ·have HWD:=Fh (HWJ.o.kept ((aa.refl (λ_=>False) wr).drew));have x0:wr.cell? ⟨wb,0,none⟩=some vw:=HWJ.o.pt.cell 0;have x0d:wr.drew.cell? ⟨wb,0,none⟩=some vw:=HWD.o.pt.cell 0;have Nk:=HWD.o.kept ((aa.refl (λ_=>False) wr.drew).alloc (.cells #[.int .i64 (j:Int)] 3));have x0a:(wr.drew.alloc (.cells #[.int .i64 (j:Int)] 3)).cell? ⟨wb,0,none⟩=some vw:=Nk.pt.cell 0;have x0b:(wr.alloc (.cells #[.int .i64 (j:Int)] 3)).cell? ⟨wb,0,none⟩=some vw:=x0a;clear Nk;have htm:Int.tmod (j:Int) (n:Int)=(j:Int):=by
    rw[Int.tmod_eq_emod_of_nonneg (by omega),Int.emod_eq_of_lt (by omega) (by omega)]
   have RI:IntKind.i64.wrap (j:Int)=(j:Int):=by rw[IntKind.wrap_i64];omega
   have PC:(List.range j).length=j:=List.length_range;have HRL:=Fh PC;have Yd:w.heap.size<=(wr.drew.alloc (.cells #[.int .i64 (j:Int)] 3)).heap.size:=((WW.o.drew).alloc _).size;clear PC;go_wp2_with fail
   go_region_law (
    (refine step_append_lies _ rfl _ _ _ rfl B 3 i0 _ 1 8 underlying125 hi G9 G8 G7 rfl (by decide) vw (List.range j).length (aO (List.range j)) rfl (HWD.o.ow.alloc _) ⟨_,0,none⟩ 1 1 [.int .i64 (j:Int)] rfl rfl (iL _ _ _) (λx hx=>by simp at hx;subst hx;rfl) (by decide) (by rw[HRL.o];unfold maxLen;omega) (by rw[HRL.o];omega) (by rw[HB.o];exact Yd) _ rfl ?_
     intro g cap w3 F3 FZ QJ ZM;have Gy:=HWD.o.ZL (by rw[HB.o];exact WW.o.drew.size) F3 FZ;have z0:w3.cell? ⟨wb,0,none⟩=some vw:=Gy.1.cell 0;have z0f:=Gy.1.frozen 0;have MQ:=Fh Gy;clear Gy F3 FZ QJ ZM))
   all_goals
    go_wp2_with fail;exact⟨⟨j+1,_,by omega,by go_num,Fh (by rw[List.range_succ];have:=MQ.o.2.1;simp only [HRL.o]at this;exact this),Fh (by have:=WW.o.drew.trans MQ.o.2.2;simp only [HRL.o]at this;exact this)⟩,by simp;omega⟩
  ·have Ul:j=n:=by omega
   subst Ul;go_wp2;go_ret;exact⟨_,_,_,rfl,by rw[<-HB.o];exact HWJ.o,WW.o.F1 (Fm _) λk hk e=>by have:=HB.o;omega⟩
theorem ly{l:List Bool}{i:Nat}{x:Bool}(h:l[i]? =some x):(bp l)[i]? =some (.bool x):=by unfold bp;rw[List.getElem?_map,h];rfl
theorem fv{l:List Nat}{i:Nat}{x:Nat}(h:l[i]? =some x):(aO l)[i]? =some (.int .i64 (x:Int)):=by unfold aO;rw[List.getElem?_map,h];rfl
theorem WH.OJ(h:WH B wb vw vu who us Ao co ov w){i:Nat}{x:Bool}(hx:us[i]? =some x):∃g c,vu= .slice (some ⟨g,0,none⟩) us.length c/\us.length<=c/\B<=g/\w.cell? ⟨g,i,none⟩=some (.bool x):=by
 obtain⟨A,c,rfl⟩:=aw h.ou;have hi:=(List.getElem?_eq_some_iff.1 hx).1;obtain⟨g,rfl,hg,hc,hh⟩:=bC h.ou (by omega) (by decide);exact⟨g,c,rfl,hc,hg,hh i _ (ly hx)⟩
theorem WH.MR(h:WH B wb vw vu who us Ao co ov w){i:Nat}{x:Nat}(hx:who[i]? =some x):∃g c,vw= .slice (some ⟨g,0,none⟩) who.length c/\who.length<=c/\B<=g/\w.cell? ⟨g,i,none⟩=some (.int .i64 (x:Int)):=by
 obtain⟨A,c,rfl⟩:=aw h.ow;have hi:=(List.getElem?_eq_some_iff.1 hx).1;obtain⟨g,rfl,hg,hc,hh⟩:=bC h.ow (by omega) (by decide);exact⟨g,c,rfl,hc,hg,hh i _ (fv hx)⟩
theorem vm(h:WH B wb vw vu who us Ao co ov w)(i:Nat)(u o:Bool)(hu:us[i]? =some u)(ho:ov[i]? =some o)(hl:us.length<=100000):Calls prog 373 #[.pointer (some ⟨wb,0,none⟩),.int .i64 (i:Int)] w λe w'=>e= .returned (.bool (u&& !o))/\w'=w:=by
 have x1:=h.pt.cell 1;have x2:=h.pt.cell 2;obtain⟨g,c,rfl,hc,_,hcell⟩:=h.OJ hu;obtain⟨g',o',rfl,_,hcell'⟩:=h.ov i o ho;have hi:=(List.getElem?_eq_some_iff.1 hu).1;have hi':=(List.getElem?_eq_some_iff.1 ho).1;obtain⟨n,hn⟩:=Fp us.length;obtain⟨m,hm⟩:=Fp ov.length;simp only [<-hn]at x1 hi hl hc;simp only [<-hm]at x2 hi';have b1:(i:Int)<(n:Int):=by omega
 have b2:(i:Int)<(m:Int):=by omega
 have b0:(0:Int)<=(i:Int):=by omega
 clear h hu ho hn hm;change w.cell? ⟨wb,1,none⟩=some (.slice (some ⟨g,0,none⟩) n c)at x1;change w.cell? ⟨wb,2,none⟩=some (.slice (some ⟨g',o',none⟩) m co)at x2;cases u with
 |false=>
  go_in;go_wp2;go_ret;exact⟨rfl,rfl⟩
 |true=>
  go_in;go_wp2;go_ret;exact⟨rfl,rfl⟩
end
section
variable{B wb co cu:Nat}{vw vu:Value}{who:List Nat}{us ov:List Bool}{Ao Au:Option Addr}{w:World}
theorem qI(h:WH B wb vw vu who us Ao co ov w)(bx:Nat)(hb:w.cell? ⟨bx,0,none⟩=some (.func (.func 373) #[.pointer (some ⟨wb,0,none⟩)] #[]))(i:Nat)(u o:Bool)(hu:us[i]? =some u)(ho:ov[i]? =some o)(hl:us.length<=100000):
  Calls prog 378 #[.int .i64 (i:Int),.pointer (some ⟨bx,0,none⟩)] w λe w'=>e= .returned (.bool (!(u&& !o)))/\w'=w:=by
 have HS:=Fh (vm h i u o hu ho hl);obtain⟨b,Ws⟩:=Fp ((u&& !o));rw[<-Ws]at HS⊢;clear h hu ho Ws;go_in;go_wp2_with fail;refine HS.o.mono ?_;rintro e w1⟨rfl,rfl⟩;go_wp2;go_ret;exact⟨rfl,rfl⟩
def Cx(p:Nat->Bool)(l:List Nat):Int:=if l.findIdx p<l.length then((l.findIdx p:Nat):Int)else-1
theorem Cy(A:Option Addr)(c:Nat)(l:List Nat)(w:World)(k:FuncId)(cp:Array Value)(henter:∀(vs:Array Value) (W:World),(callFunc k vs).run prog W= .ok (.enter k vs) W)(p:Nat->Bool)(hl:l.length<=100000)
  (hr:∀(i:Nat) (x:Nat),l[i]? =some x->∃g o,A=some ⟨g,o,none⟩/\w.cell? ⟨g,o+i,none⟩=some (.int .i64 (x:Int))) (hf:∀x∈l,Calls prog k (#[.int .i64 (x:Int)]++cp) w λe w'=>e= .returned (.bool (p x))/\w'=w):
  Calls prog 377 #[.slice A l.length c,.func (.func k) #[] cp] w λe w'=>e= .returned (.int .i64 (Cx p l))/\w'=w:=by
 have HF:=Fh hf;have HR:=Fh hr;obtain⟨n,hn⟩:=Fp l.length;have HN:=Fh hn;rw[<-hn]at hl⊢;clear hf hr hn;go_in;go_wp2_with fail
 go_loopw [5,8] (λ_ s8 W=>∃j:Nat,j<=n/\s8= .int .i64 j/\W=w/\Hid (∀x∈l.take j,p x=false)) (λ_ s8 W=>match s8 with| .int _ m=>n-m.toNat|_=>0)
 case atStart=>exact⟨0,Nat.zero_le _,rfl,rfl,Fh λx hx=>by simp at hx⟩
 case round=>
  obtain⟨j,hj,rfl,rfl,HP⟩:=hrel;by_cases FR:j<n
  ·obtain⟨x,hx⟩:∃x,l[j]? =some x:=⟨_,Fl (by have:=HN.o;omega)⟩;obtain⟨g,o,hA,hc⟩:=HR.o j x hx;subst hA;have HX:=Fh hx;have HFX:=Fh (HF.o x (List.mem_of_getElem? hx));clear hx;obtain⟨b,hb⟩:=Fp (p x);have HB:=Fh hb;rw[<-hb]at HFX;clear hb;go_wp2_with fail;refine HFX.o.mono ?_;rintro e w2⟨rfl,rfl⟩;cases b with
   |true=>
    go_wp2;go_ret;refine⟨?_,by simp⟩;have Yi:j<l.length:=by have:=HN.o;omega
    have e:l.findIdx p=j:=by
     rw[List.findIdx_eq Yi];have hx:=HX.o;rw[Fl Yi]at hx;refine⟨by rw[Fk hx,<-HB.o],λq hq=> ?_⟩;have:=HP.o l[q] (List.mem_take_iff_getElem.2 ⟨q,by omega,rfl⟩);simpa using this
    unfold Cx;rw[e,if_pos Yi];rfl
   |false=>
    go_wp2_with fail;exact⟨⟨j+1,by omega,by go_num,by simp,Fh λy hy=>by
     rw[List.take_add_one,HX.o]at hy;rcases List.mem_append.1 hy with hy|hy
     ·exact HP.o y hy
     ·simp at hy;rw[hy,<-HB.o]⟩,by simp;omega⟩
  ·have Ul:j=n:=by omega
   subst Ul;go_wp2;go_ret;refine⟨?_,by simp⟩;have e:l.findIdx p=l.length:=List.findIdx_eq_length.2 λx hx=>HP.o x (by rw[HN.o,List.take_length];exact hx);unfold Cx;rw[e,if_neg (Nat.lt_irrefl _)];rfl
def eV(who:List Nat)(us ov:List Bool):Nat:=who.findIdx λi=> !(us.getD i false&& !ov.getD i false)
theorem tl(h:WH B wb vw vu who us Ao co ov w)(hb:B<=w.heap.size)(hl:us.length<=100000)(OF:ov.length=us.length)(hw:∀x∈who,x<us.length)(RJ:who.length<=100000):
  Calls prog 372 #[.pointer (some ⟨wb,0,none⟩),.func (.func 373) #[.pointer (some ⟨wb,0,none⟩)] #[]] w λe w'=>e= .returned (.int .i64 (eV who us ov:Nat))/\WH B wb vw vu who us Ao co ov w'/\Below w.heap.size w w':=by
 obtain⟨w1,FJ⟩:=Fp (w.alloc (.cells #[.func (.func 373) #[.pointer (some ⟨wb,0,none⟩)] #[]] 156));have FN:Below w.heap.size w w1:=by rw[FJ];exact(Below.refl _ w).alloc (Fm _) _
 have h1:=h.kept (aa.below FN _);obtain⟨bx,UI⟩:=Fp w.heap.size;have GN:w1.cell? ⟨bx,0,none⟩=some (.func (.func 373) #[.pointer (some ⟨wb,0,none⟩)] #[]):=by rw[FJ,UI];exact Whole.cell (Whole.new w _ _) 0
 have x0:=h1.pt.cell 0;have LS:∀x∈who,Calls prog 378 (#[.int .i64 (x:Int)]++ #[.pointer (some ⟨bx,0,none⟩)]) w1 λe w'=>e= .returned (.bool ((λi=> !(us.getD i false&& !ov.getD i false)) x))/\w'=w1:=λx hx=>by
  have GD:=hw x hx;have e1:us[x]? =some (us.getD x false):=by rw[List.getD_eq_getElem?_getD,Fl GD];rfl
  have e2:ov[x]? =some (ov.getD x false):=by rw[List.getD_eq_getElem?_getD,Fl (by omega)];rfl
  exact qI h1 bx GN x _ _ e1 e2 hl
 obtain⟨A,c,hvw⟩:=aw h1.ow;have Gh:∀(i:Nat) (x:Nat),who[i]? =some x->∃g o,A=some ⟨g,o,none⟩/\w1.cell? ⟨g,o+i,none⟩=some (.int .i64 (x:Int)):=λi x hx=>by
  obtain⟨g,c',e,_,_,hh⟩:=h1.MR hx;rw[hvw]at e;injection e with e1;exact⟨g,0,e1,by rw[Nat.zero_add];exact hh⟩
 have HI:=Fh (Cy A c who w1 378 #[.pointer (some ⟨bx,0,none⟩)] (enters_of func378 (by kernel_rfl) rfl) _ RJ Gh LS);obtain⟨k,hk⟩:=Fp (Cx (λi=> !(us.getD i false&& !ov.getD i false)) who);rw[<-hk]at HI;obtain⟨n,hn⟩:=Fp who.length;have HN:=Fh hn;have HK:=Fh hk;have H1:=Fh h1;have GH:=Fh FN;rw[<-hn]at HI;have ZN:=hvw;rw[<-hn]at ZN;rw[ZN]at x0;clear h h1 LS Gh GN hk hn hvw ZN FN hw OF;have Hz:eV who us ov=if k<0 then n else k.toNat:=by
  have h1:=HK.o;have h2:=HN.o;have h3:eV who us ov<=who.length:=List.findIdx_le_length;unfold Cx at h1;change k=if eV who us ov<who.length then((eV who us ov:Nat):Int)else-1 at h1
  by_cases q:eV who us ov<who.length
  ·rw[if_pos q]at h1;rw[if_neg (by omega)];omega
  ·rw[if_neg q]at h1;rw[if_pos (by omega)];omega
 by_cases WX:k<0
 ·have q1:decide (k<0)=true:=decide_eq_true WX;rw[if_pos WX]at Hz;rw[Hz];go_in;go_upto_region 1 with fail;rw[<-FJ,<-UI];clear FJ UI;go_wp2_with fail;refine HI.o.mono ?_;rintro e w2⟨rfl,FL⟩;have h:=FL.symm;subst h;go_wp2;go_ret;exact⟨rfl,H1.o,GH.o⟩
 ·have q1:decide (k<0)=false:=decide_eq_false WX;rw[if_neg WX]at Hz;rw[Hz,show((k.toNat:Nat):Int)=k by omega];go_in;go_upto_region 1 with fail;rw[<-FJ,<-UI];clear FJ UI;go_wp2_with fail;refine HI.o.mono ?_;rintro e w2⟨rfl,FL⟩;have h:=FL.symm;subst h;go_wp2;go_ret;exact⟨rfl,H1.o,GH.o⟩
end
theorem DW{w:World}{base:Nat}{e:TypeId}{size:Nat}{g c n m:Nat}{xs:List Value}(h:w.ownsRow base e size (.slice (some ⟨g,0,none⟩) n c) m xs){i:Nat}(hi:i<xs.length)(u:Value):(w.setCell ⟨g,i,none⟩ u).ownsRow base e size (.slice (some ⟨g,0,none⟩) n c) m (xs.set i u):=by
 rcases h.2 with⟨h1,_⟩|⟨g',cap,Kb,h1,hb,hg,hn,hm,hs,ht⟩
 ·cases h1
 ·simp only [Value.slice.injEq,Option.some.injEq,Addr.mk.injEq,and_true,true_and]at h1;obtain⟨rfl,rfl,rfl⟩:=h1;have hw:Whole w g e Kb:=hg;refine⟨by rw[List.length_set];exact h.1,.inr ⟨g,c,_,rfl,hb,hw.put i u,hn,hm,by simpa using hs,?_⟩⟩;rw[Array.toList_setIfInBounds,List.take_set,ht]
theorem xo{w:World}{base:Nat}{e:TypeId}{size:Nat}{g c n m:Nat}{xs:List Value}(h:w.ownsRow base e size (.slice (some ⟨g,0,none⟩) n c) m xs)(i:Nat):w.frozen? ⟨g,i,none⟩=false:=by
 rcases h.2 with⟨h1,_⟩|⟨g',cap,Kb,h1,hb,hg,hn,hm,hs,ht⟩
 ·cases h1
 ·simp only [Value.slice.injEq,Option.some.injEq,Addr.mk.injEq,and_true,true_and]at h1;obtain⟨rfl,rfl,rfl⟩:=h1;exact Whole.frozen hg i
section
variable{B wb co cu:Nat}{vw vu:Value}{who:List Nat}{us ov:List Bool}{Ao Au:Option Addr}{w:World}
def SF(us:List Bool)(l:List Nat):List Bool:=l.foldl (λu i=>u.set i false) us
theorem JX:∀(l:List Nat) (us:List Bool),(SF us l).length=us.length
 | [],_=>rfl
 |x::l,us=>by
  show(SF (us.set x false) l).length=_;rw[JX l,List.length_set]
theorem vn(us:List Bool)(l:List Nat)(x:Nat):SF us (l++ [x])=(SF us l).set x false:=by unfold SF;rw[List.foldl_append];rfl
theorem WH.unuse(h:WH B wb vw vu who us Ao co ov w){i g c:Nat}(hi:i<us.length)(hv:vu= .slice (some ⟨g,0,none⟩) us.length c):WH B wb vw vu who (us.set i false) Ao co ov (w.setCell ⟨g,i,none⟩ (.bool false))/\aa (λk=>B<=k) w (w.setCell ⟨g,i,none⟩ (.bool false)):=by
 have ho:=h.ou;rw[hv]at ho;have hg:B<=g:=(aF ho (k:=g) rfl).1;have ks:aa (λk=>k=g) w (w.setCell ⟨g,i,none⟩ (.bool false)):=(aa.refl (λk=>k=g) w).setCell (p:=⟨g,i,none⟩) (.inl rfl) _;have kb:aa (λk=>B<=k) w (w.setCell ⟨g,i,none⟩ (.bool false)):=ks.mono λk _ e=>by rw[e];exact hg
 have hwg:wb≠g:=λe=>aA ho h.pt (by decide) (by rw[e];rfl);refine⟨⟨ks.whole h.pt hwg,h.ge,aj h.ow ks λk hk e=>fq ho h.ow (by decide) (k:=k) hk (by rw[e];rfl),?_,h.ov.kept kb⟩,kb⟩;have:=DW ho (i:=i) (by rw[lx];exact hi) (.bool false);rw[hv,List.length_set];have e:bp (us.set i false)=(bp us).set i (.bool false):=by unfold bp;rw[List.map_set]
 rw[e];exact this
theorem Cz{P:Program}{t e:TypeId}{s:Nat}(ht:P.underlying t=some (.slice e))(hs:∀w,(sizeOf e).run P w= .ok s w)(A:Option Addr)(n c k:Nat)(h:k<=c)(w:World):
  (Instr.slice t (.slice A n c) none (some (.int .i64 (k:Int))) (some (.int .i64 (k:Int)))).run P w= .ok (.slice A k k) w:=by
 have e1:∀(y:Nat) (code:BoundsCode),k<=y->(Instr.sliceBound (.int .i64 (k:Int)) y code).run P w= .ok k w:=λy code h=>by
  rw[run_sliceBound w .i64 (k:Int) y code (by omega) (by omega)];simp
 have e3:∀q:Addr,q.add 0=q:=λq=>by
  obtain⟨b,o,sp⟩:=q;cases sp<;>simp[Addr.add]
 simp[Instr.slice,run_underlying ht,Instr.sliceBounds,e1 c _ h,e1 k _ (Fm _),hs,e3]
theorem As{P:Program}{t e:TypeId}{s:Nat}(ht:P.underlying t=some (.slice e))(hs:∀w,(sizeOf e).run P w= .ok s w)(A:Option Addr)(n c k:Nat)(h1:k<=n)(h2:n<=c)(w:World):
  (Instr.slice t (.slice A n c) (some (.int .i64 (k:Int))) (some (.int .i64 (n:Int))) (some (.int .i64 (n:Int)))).run P w= .ok (.slice (fD A n k s) (n-k) (n-k)) w:=by
 have e1:∀(y:Nat) (code:BoundsCode),n<=y->(Instr.sliceBound (.int .i64 (n:Int)) y code).run P w= .ok n w:=λy code h=>by
  rw[run_sliceBound w .i64 (n:Int) y code (by omega) (by omega)];simp
 have e2:∀(code:BoundsCode),(Instr.sliceBound (.int .i64 (k:Int)) n code).run P w= .ok k w:=λcode=>by
  rw[run_sliceBound w .i64 (k:Int) n code (by omega) (by omega)];simp
 simp[Instr.slice,run_underlying ht,Instr.sliceBounds,e1 c _ h2,e1 n _ (Fm _),e2,hs,fD]
theorem iY{P:Program}{ops:Array Oper}{o:Oper}{a:Act}{w:World}{K:Act->World->Prop}{Q:Exit->Act->World->Prop}{E:Prop}(J2:o.guard=none)(s x:Operand)(t:TypeId)
  (ho:o.op= .call {callee:= .builtin .append,args:= #[s,x],argTypes:= #[t,t]}) (v u:Value) (hs:a.eval s=v) (hx:a.eval x=u) {v':Value} {w':World}
  (hr:(Builtin.append_ #[t,t] o.type #[v,u]).run P w= .ok v' w') (h:K (a.put o.dst v') w'):if Region.wanted o (yielded ops a.tmps)=true then Oper.wp P o a w K Q else E:=by
 have hw:Region.wanted o (yielded ops a.tmps)=true:=by simp[Region.wanted,J2]
 rw[if_pos hw];unfold Oper.wp execOp;simp only [ho,resolve,invoke,builtin,Sem.run_bind,Sem.run_pure,Result.andThen_ok,List.map_toArray,List.map_cons,List.map_nil,hs,hx,hr];exact h
def WP(B wb:Nat)(vu:Value)(f:Nat)(us:List Bool)(vo:Value)(W:World):Prop:=∃g o m c,Whole W wb 391 #[.slice (some ⟨g,o,none⟩) m c,vu,vo]/\0<m/\W.cell? ⟨g,o,none⟩=some (.int .i64 (f:Int))/\W.ownsRow B 4 1 vu us.length (bp us)
theorem CA(n k gw c:Nat)(h:WH B wb (.slice (some ⟨gw,0,none⟩) n c) vu who us Ao co ov w)(hn:n=who.length)(hk:k<=n)(h0:0<n)(hl:n<=100000)(hb:B<=w.heap.size):
  ∃v' w3,(Builtin.append_ #[125,125] 125 #[.slice (fD (some ⟨gw,0,none⟩) n k 1) (n-k) (n-k),.slice (some ⟨gw,0,none⟩) k k]).run prog w= .ok v' w3/\Whole w3 wb 391 #[.slice (some ⟨gw,0,none⟩) n c,vu,.slice Ao ov.length co]/\
   WP B wb vu ((who.drop k++who.take k).headD 0) us (.slice Ao ov.length co) (w3.setCell ⟨wb,0,none⟩ v')/\aa (λk=>B<=k) w (w3.setCell ⟨wb,0,none⟩ v')/\∃A m c,v'= .slice A m c:=by
 obtain⟨i0,hi,G9,G8,G7⟩:=info_parts IN.2.1;have hcell:∀(i x:Nat),who[i]? =some x->w.cell? ⟨gw,i,none⟩=some (.int .i64 (x:Int)):=λi x hx=>by
  obtain⟨g,c',e,_,_,hh⟩:=h.MR hx;simp only [Value.slice.injEq,Option.some.injEq,Addr.mk.injEq,and_true]at e;rw[e.1];exact hh
 have Ng:∀v',aa (λk=>k=wb) w (w.setCell ⟨wb,0,none⟩ v'):=λv'=>(aa.refl (λk=>k=wb) w).setCell (p:=⟨wb,0,none⟩) (.inl rfl) _;by_cases IK:k=0
 ·subst IK;have hr:=run_append_room_cells (P:=prog) w 125 125 3 i0 underlying125 hi gw 0 n n ⟨gw,0,none⟩ 0 0 [] (by simp) (by simp) (by simp) (by omega) (by simp) (by simp);have e0:fD (some ⟨gw,0,none⟩) n 0 1=some ⟨gw,0,none⟩:=by unfold fD;rw[if_neg (by omega)];rfl
  rw[Nat.sub_zero,e0];have es:w.setCells gw (0+n*i0.size) []=w:=rfl;rw[es,Nat.add_zero]at hr;refine⟨_,w,hr,h.pt,⟨gw,0,n,n,h.pt.put 0 _,h0,?_,?_⟩,(Ng _).mono λk _ e=>by rw[e];exact h.ge,_,_,_,rfl⟩
  ·have hx:who[0]? =some (who.headD 0):=by
    cases e:who with
    |nil=>rw[e]at hn;simp at hn;omega
    |cons x l=>rfl
   have e1:(who.drop 0++who.take 0).headD 0=who.headD 0:=by simp
   rw[e1];exact(Ng _).cell (hcell 0 _ hx) λe=>aA h.ow h.pt (by decide) (by rw[<-(show gw=wb from e)];rfl)
  ·exact aj h.ou (Ng _) λk hk e=>aA h.ou h.pt (by decide) (by rw[hk,e])
 ·have KA:∀(j:Nat) (u:Value),(aO (who.take k))[j]? =some u->w.cell? ((⟨gw,0,none⟩:Addr).add j)=some u:=λj u hu=>by
   unfold aO at hu;rw[List.getElem?_map]at hu;obtain⟨x,h1,rfl⟩:=Option.map_eq_some_iff.1 hu;rw[Addr.add_lit,Nat.zero_add];rw[List.getElem?_take]at h1;by_cases q:j<k
   ·rw[if_pos q]at h1;exact hcell j x h1
   ·rw[if_neg q]at h1;cases h1
  obtain⟨ad,had,hold⟩:∃ad:Addr,fD (some ⟨gw,0,none⟩) n k 1=some ad/\∀(j:Nat) (u:Value),(aO (who.drop k))[j]? =some u->w.cell? (ad.add j)=some u:=by
   by_cases Zf:k=n
   ·refine⟨⟨gw,0,none⟩,by unfold fD;rw[if_pos Zf.symm],λj u hu=> ?_⟩;rw[Zf,hn,List.drop_length]at hu;simp[aO]at hu
   ·refine⟨⟨gw,k,none⟩,?_,λj u hu=> ?_⟩
    ·unfold fD;rw[if_neg λe=>Zf e.symm];show some ((⟨gw,0,none⟩:Addr).add (k*1))=_;rw[Addr.add_lit,Nat.zero_add,Nat.mul_one]
    ·unfold aO at hu;rw[List.getElem?_map,List.getElem?_drop]at hu;obtain⟨x,h1,rfl⟩:=Option.map_eq_some_iff.1 hu;rw[Addr.add_lit];exact hcell (k+j) x h1
  have ME:(aO (who.drop k)).length=(n-k)*1:=by unfold aO;simp[hn]
  have FR:(aO (who.take k)).length=k*1:=by unfold aO;simp;omega
  obtain⟨v',w3,hr,Nj,FZ⟩:=run_append_arg_grows (P:=prog) w 125 125 3 i0 (.int .i64 0) 1 8 underlying125 hi G9 G8 G7 rfl (by decide) ad (n-k) (n-k) (aO (who.drop k)) ME hold ⟨gw,0,none⟩ k k (aO (who.take k)) FR KA (by omega) (by unfold maxLen;omega) (by omega);have k3:aa (λ_=>False) w w3:=(aa.grown FZ).mono λk _ e=>by cases e
  have h3:=h.kept k3;have hne:v'.ownBlock≠some wb:=aA Nj h3.pt (by decide);have Il:aa (λk=>k=wb) w3 (w3.setCell ⟨wb,0,none⟩ v'):=(aa.refl (λk=>k=wb) w3).setCell (p:=⟨wb,0,none⟩) (.inl rfl) _;have Tm:n-k+k=n:=by omega
  have exs:aO (who.drop k)++aO (who.take k)=aO (who.drop k++who.take k):=by unfold aO;rw[List.map_append]
  rw[Tm,exs]at Nj;obtain⟨A,c',rfl⟩:=aw Nj;obtain⟨g,rfl,hg,hc,hh⟩:=bC Nj h0 (by decide);have hx:(who.drop k++who.take k)[0]? =some ((who.drop k++who.take k).headD 0):=by
   cases e:who.drop k++who.take k with
   |nil=>
    have:=congrArg List.length e;rw[List.length_append,List.length_drop,List.length_take,List.length_nil]at this;omega
   |cons x l=>rfl
  refine⟨_,w3,by rw[had];exact hr,h3.pt,⟨g,0,n,c',h3.pt.put 0 _,h0,?_,?_⟩,(k3.mono λ_ _ e=>e.elim).trans (Il.mono λk _ e=>by rw[e];exact h.ge),_,_,_,rfl⟩
  ·exact Il.cell (hh 0 _ (fv hx)) λe=>hne (by rw[<-(show g=wb from e)];rfl)
  ·exact aj h3.ou Il λk hk e=>aA h3.ou h3.pt (by decide) (by rw[hk,e])
theorem xp(k:Nat)(hk:k<=who.length)(h:WH B wb vw vu who us Ao co ov w)(hb:B<=w.heap.size)(hl:us.length<=100000)(hw:∀x∈who,x<us.length)(RJ:who.length<=100000)(Fx:who≠ []):
  Calls prog 371 #[.pointer (some ⟨wb,0,none⟩),.int .i64 (k:Int)] w λe w'=>e= .returned (.tuple #[])/\WP B wb vu ((who.drop k++who.take k).headD 0) (SF us (who.take k)) (.slice Ao ov.length co) w'/\aa (λk=>B<=k) w w':=by
 obtain⟨A,c,hvw⟩:=aw h.ow;subst hvw;have Pm:0<who.length:=List.length_pos_iff.2 Fx;obtain⟨gw,rfl,hgB,XD,Rb⟩:=bC h.ow Pm (by decide);obtain⟨n,hn⟩:=Fp who.length;have HN:=Fh hn;rw[<-hn]at h hk RJ XD Pm;have H0:=Fh h;have x0:w.cell? ⟨wb,0,none⟩=some (.slice (some ⟨gw,0,none⟩) n c):=h.pt.cell 0;obtain⟨U,hU⟩:=Fp us.length;have HW:=Fh hw;have HU:=Fh hU;rw[<-hU]at hl;obtain⟨gu,cu,WV⟩:∃gu cu,vu= .slice (some ⟨gu,0,none⟩) us.length cu:=by
  cases e:us with
  |nil=>
   cases e2:who with
   |nil=>exact absurd e2 Fx
   |cons y l=>
    have:=hw y (by rw[e2];simp);rw[e]at this;simp at this
  |cons y l=>
   obtain⟨g,c,e1,_⟩:=h.OJ (i:=0) (x:=y) (by rw[e];rfl);exact⟨g,c,by rw[e1,e]⟩
 clear hn Rb hw Fx hU h;have cut1:=λW=>Cz (P:=prog) underlying125 sizeOf3 (some ⟨gw,0,none⟩) n c k (by omega) W;have cut2:=λW=>As (P:=prog) underlying125 sizeOf3 (some ⟨gw,0,none⟩) n c k hk XD W;go_in;go_wp2_with fail
 go_loopw [5,14] (λ_ Ua W=>∃j:Nat,j<=k/\Ua= .int .i64 j/\Hid (WH B wb (.slice (some ⟨gw,0,none⟩) n c) vu who (SF us (who.take j)) Ao co ov W)/\Hid (aa (λk=>B<=k) w W)) (λ_ Ua W=>match Ua with| .int _ m=>k-m.toNat|_=>0)
 case atStart=>exact⟨0,Nat.zero_le _,rfl,H0,Fh (aa.refl _ _)⟩
 case round=>
  obtain⟨j,hj,rfl,HJ,WW⟩:=hrel;by_cases FR:j<k
  ·obtain⟨x,hx⟩:∃x,who[j]? =some x:=⟨_,Fl (by have:=HN.o;omega)⟩;have hxw:=HW.o x (List.mem_of_getElem? hx);obtain⟨g,c',e,_,_,Yj⟩:=HJ.o.MR hx;simp only [Value.slice.injEq,Option.some.injEq,Addr.mk.injEq,and_true]at e;rw[<-e.1]at Yj;have hcx':wr.cell? ⟨gw,j,none⟩=some (.int .i64 (x:Int)):=Yj;have G8:wr.cell? ⟨wb,1,none⟩=some (.slice (some ⟨gu,0,none⟩) U cu):=by rw[HU.o,<-WV];exact HJ.o.pt.cell 1
   obtain⟨y,hy⟩:∃y,(SF us (who.take j))[x]? =some y:=⟨_,Fl (by rw[JX];exact hxw)⟩;obtain⟨g2,c2,e2,KQ,_,Lq⟩:=HJ.o.OJ hy;rw[WV]at e2;simp only [Value.slice.injEq,Option.some.injEq,Addr.mk.injEq,and_true]at e2;rw[<-e2.1]at Lq;have VT:=HJ.o.ou;rw[WV,<-HU.o]at VT;have fz:=xo VT x;have hxU:x<U:=by rw[HU.o];exact hxw
   have b1:(x:Int)<(U:Int):=by omega
   have b0:(0:Int)<=(x:Int):=by omega
   have b2:(j:Int)<(k:Int):=by omega
   have b3:(0:Int)<=(j:Int):=by omega
   have HUN:=Fh (HJ.o.unuse (i:=x) (g:=gu) (c:=cu) (by rw[JX];exact hxw) (by rw[JX];exact WV));have hes:SF us (who.take (j+1))=(SF us (who.take j)).set x false:=by
    rw[List.take_add_one,hx];exact vn _ _ _
   have HES:=Fh hes;clear hx hxw e Yj hy e2 VT KQ hes;go_wp2_with fail;exact⟨⟨j+1,by omega,by go_num,Fh (by rw[HES.o];exact HUN.o.1),Fh (WW.o.trans HUN.o.2)⟩,by simp;omega⟩
  ·have hjk:j=k:=by omega
   subst hjk;have hd:=HJ.o.kept ((aa.refl (λ_=>False) wr).drew);obtain⟨v',w3,hr,Ma,hwp,KZ,Az,mz,cz,hvz⟩:=CA n j gw c hd HN.o hk Pm RJ (Nat.le_trans hb WW.o.drew.size);subst hvz;have y0:wr.cell? ⟨wb,0,none⟩=some (.slice (some ⟨gw,0,none⟩) n c):=HJ.o.pt.cell 0;have y0d:wr.drew.cell? ⟨wb,0,none⟩=some (.slice (some ⟨gw,0,none⟩) n c):=hd.pt.cell 0;have z0:w3.cell? ⟨wb,0,none⟩=some (.slice (some ⟨gw,0,none⟩) n c):=Ma.cell 0;have z0f:=Ma.frozen 0;have HR:=Fh hr;have HWP:=Fh hwp;have HKK:=Fh (WW.o.drew.trans KZ);clear hd hr Ma hwp KZ WV hl hb HW HU H0 HN HJ WW hgB;go_wp2_with fail
   go_region_law ((refine iY rfl _ _ 125 rfl (.slice (fD (some ⟨gw,0,none⟩) n j 1) (n-j) (n-j)) (.slice (some ⟨gw,0,none⟩) j j) rfl rfl HR.o ?_))
   all_goals
    go_end0;exact⟨rfl,HWP.o,HKK.o⟩
end
section
variable{B wb co cu:Nat}{vw vu:Value}{who:List Nat}{us ov:List Bool}{Ao Au:Option Addr}{w:World}
def mm(us ov:List Bool):Nat:=if eV (List.range us.length) us ov<us.length then eV (List.range us.length) us ov else 0
def nU(us ov:List Bool):List Bool:=SF us ((List.range us.length).take (eV (List.range us.length) us ov))
theorem Aw(us ov:List Bool):(nU us ov).length=us.length:=JX _ _
theorem xq(us ov:List Bool):((List.range us.length).drop (eV (List.range us.length) us ov)++(List.range us.length).take (eV (List.range us.length) us ov)).headD 0=mm us ov:=by
 unfold mm;obtain⟨k,hk⟩:=Fp (eV (List.range us.length) us ov);rw[<-hk];by_cases h:k<us.length
 ·rw[if_pos h];have:(List.range us.length).drop k=k::(List.range us.length).drop (k+1):=by
   rw[List.drop_eq_getElem_cons (by simpa using h)];simp
  rw[this];rfl
 ·rw[if_neg h];have h2:(List.range us.length).drop k= []:=List.drop_eq_nil_of_le (by simp;omega);have h3:(List.range us.length).take k=List.range us.length:=List.take_of_length_le (by simp;omega);rw[h2,h3];cases us.length with
  |zero=>rfl
  |succ n=>rw[List.range_succ_eq_map];rfl
theorem xr(hu:bR Au us w.heap.size w)(ho:bR Ao ov w.heap.size w)(h0:us≠ [])(he:ov.length=us.length)(hl:us.length<=100000):Calls prog 363 #[.slice Au us.length cu,.slice Ao ov.length co,.int .i64 0] w λe w'=>
  ∃vu,e= .returned (.tuple #[.int .i64 (mm us ov:Nat),vu,.int .i64 0])/\w'.ownsRow w.heap.size 4 1 vu us.length (bp (nU us ov))/\Below w.heap.size w w':=by
 have HR:=Fh (nT us.length us.length w);rw[if_neg (by have:=List.length_pos_iff.2 h0;omega)]at HR;have HS:=Fh (Ar (co:=co) (cu:=cu) hu ho h0 hl);have Nd:=Fh (λwb vw vu W (h:WH w.heap.size wb vw vu (List.range us.length) us Ao co ov W) (hb:w.heap.size<=W.heap.size)=>tl h hb hl he (λx hx=>List.mem_range.1 hx) (by rw[List.length_range];exact hl));have HPP:=Fh (λwb vw vu W (h:WH w.heap.size wb vw vu (List.range us.length) us Ao co ov W) (hb:w.heap.size<=W.heap.size)=>xp (eV (List.range us.length) us ov) List.findIdx_le_length h hb hl (λx hx=>List.mem_range.1 hx) (by rw[List.length_range];exact hl) (by
  intro e;have:=congrArg List.length e;rw[List.length_range,List.length_nil]at this;exact h0 (List.length_eq_zero_iff.1 this)))
 simp only [xq]at HPP;obtain⟨S,hS⟩:=Fp (eV (List.range us.length) us ov);have Zs:Hid (SF us ((List.range us.length).take S)=nU us ov):=Fh (by rw[hS];rfl);rw[<-hS]at HPP Nd;obtain⟨N,hN⟩:=Fp (mm us ov);simp only [<-hN]at HPP;rw[<-hN];obtain⟨n,hn⟩:=Fp us.length;have HN:=Fh hn;rw[he]at HS⊢;rw[<-hn]at HR HS⊢;clear hu ho h0 hS hN hn hl;have HE:=Fh he;clear he;go_in;go_wp2_with fail;refine HR.o.mono ?_;rintro e w1⟨rfl,FJ⟩;have FL:=FJ.symm;subst FL;go_wp2_with fail;refine HS.o.mono ?_;rintro e w2⟨wb,vw,vu,rfl,Kt,FF⟩;have Jc:aa (λk=>w.heap.size<=k) w w2:=aa.below FF _;go_wp2_with fail;refine(Nd.o wb vw vu w2 (by rw[<-HN.o];exact Kt) Jc.size).mono ?_;rintro e w3⟨rfl,hwh3,Gf⟩;have TY:=Jc.trans (aa.below Gf (λk=>w.heap.size<=k));go_wp2_with fail;refine(HPP.o wb vw vu w3 hwh3 TY.size).mono ?_;rintro e w4⟨rfl,hwp,MD⟩;have hk:=TY.trans MD;obtain⟨g,o,m,c,Mn,hm,hcell,Gq⟩:=hwp;rw[Zs.o]at Gq;have x0:w4.cell? ⟨wb,0,none⟩=some (.slice (some ⟨g,o,none⟩) m c):=Mn.cell 0;have x1:w4.cell? ⟨wb,1,none⟩=some vu:=Mn.cell 1;have b0:(0:Int)<(m:Int):=by omega
 have HO:=Fh Gq;have HK:=Fh hk;have x2:w4.cell? ⟨g,o+0,none⟩=some (.int .i64 (N:Int)):=hcell;clear Kt FF Jc hwh3 Gf TY MD hk Mn Gq;go_wp2_with fail
 go_region
 all_goals
  go_wp2;go_ret3;exact⟨_,rfl,by have:=aj HO.o ((aa.refl (λ_=>False) w4).drew) (λ_ _=>id);rw[Aw,<-HN.o]at this;rw[HE.o,<-HN.o]at*;exact this,HK.o.drew.F1 (Fm _) λk hk e=>by omega⟩
end
theorem DX{w:World}{rb:Nat}{T:TypeId}{a0 a1 a2 a3:Value}(h:Whole w rb T #[a0,a1,a2,a3])(x0 x1 x2 x3:Value):Whole ((((w.setCell ⟨rb,0,none⟩ x0).setCell ⟨rb,1,none⟩ x1).setCell ⟨rb,2,none⟩ x2).setCell ⟨rb,3,none⟩ x3) rb T #[x0,x1,x2,x3]:=(((h.put 0 x0).put 1 x1).put 2 x2).put 3 x3
section
variable{O:av}{μ:Mm}{w:World}
structure N7(O:av)(μ:Mm)(w:World)(zb rb:Nat)(va vu vo:Value)(all:List Nat)(us os:List Bool)(W:World):Prop where
 mg:MG O w μ W
 pt:Whole W rb 366 #[.pointer (some ⟨O.mb,0,none⟩),va,vu,vo]
 pz:Whole W zb 366 #[.pointer none,.slice none 0 0,.slice none 0 0,.slice none 0 0]
 nz:zb≠rb/\¬au O zb
 nr:¬au O rb
 ge:w.heap.size<=rb
 oa:W.ownsRow w.heap.size 3 1 va all.length (aO all)
 ou:W.ownsRow w.heap.size 4 1 vu us.length (bp us)
 oo:W.ownsRow w.heap.size 4 1 vo os.length (bp os)
 ne:∀k,vu.ownBlock=some k->vo.ownBlock≠some k
variable{zb rb:Nat}{va vu vo:Value}{all:List Nat}{us os:List Bool}{W W':World}
theorem di(h0:ao O μ w){W:World}{e:TypeId}{v:Value}{n:Nat}{xs:List Value}(h:W.ownsRow w.heap.size e 1 v n xs):∀k,v.ownBlock=some k->¬au O k:=λk hk=>h0.Fu (aF h hk).1
theorem N7.on(h0:ao O μ w){μ':Mm}(h:N7 O μ w zb rb va vu vo all us os W)(k:MG O W μ' W')(e:μ'=μ):N7 O μ w zb rb va vu vo all us os W':=by
 subst e;exact⟨h.mg.trans k,k.kept.whole h.pt h.nr,k.kept.whole h.pz h.nz.2,h.nz,h.nr,h.ge,aj h.oa k.kept (di h0 h.oa),aj h.ou k.kept (di h0 h.ou),aj h.oo k.kept (di h0 h.oo),h.ne⟩
theorem N7.new(h:N7 O μ w zb rb va vu vo all us os W)(k:aa (λ_=>False) W W'):N7 O μ w zb rb va vu vo all us os W':=
 ⟨⟨h.mg.has.kept k λ_ _=>id,h.mg.kept.trans (k.mono λ_ _ e=>e.elim)⟩,k.whole h.pt id,k.whole h.pz id,h.nz,h.nr,h.ge,aj h.oa k λ_ _=>id,aj h.ou k λ_ _=>id,aj h.oo k λ_ _=>id,h.ne⟩
theorem nV(l:List Bool)(x:Bool):bp (l++ [x])=bp l++ [.bool x]:=by unfold bp;rw[List.map_append];rfl
theorem N7.ZL(h0:ao O μ w){o:Obj}{w3:World}{g cap:Nat}{x:Bool}(h:N7 O μ w zb rb va vu vo all us os W)(F3:w3.ownsRow w.heap.size 4 1 (.slice (some ⟨g,0,none⟩) (us.length+1) cap) (us.length+1) (bp us++ [.bool x]))(FZ:(W.alloc o).grownBy w3 vu.ownBlock)(GG:vu.ownBlock=some g\/g=(W.alloc o).heap.size):
  Whole w3 rb 366 #[.pointer (some ⟨O.mb,0,none⟩),va,vu,vo]/\N7 O μ w zb rb va (.slice (some ⟨g,0,none⟩) (us.length+1) cap) vo all (us++ [x]) os (w3.setCell ⟨rb,2,none⟩ (.slice (some ⟨g,0,none⟩) (us.length+1) cap)):=by
 have ka:aa (λ_=>False) W (W.alloc o):=(aa.refl _ _).alloc _;have h1:=h.new ka;have kg:=aa.grown FZ;have F7:Whole w3 rb 366 #[.pointer (some ⟨O.mb,0,none⟩),va,vu,vo]:=kg.whole h1.pt (aA h1.ou h1.pt (by decide));have ks:aa (λk=>k=rb) w3 (w3.setCell ⟨rb,2,none⟩ (.slice (some ⟨g,0,none⟩) (us.length+1) cap)):=(aa.refl (λk=>k=rb) w3).setCell (p:=⟨rb,2,none⟩) (.inl rfl) _;have SG:=aj h1.oa kg λk hk e=>fq h1.ou h1.oa (by decide) hk e;have Nj:=aj h1.oo kg λk hk e=>h1.ne k e hk;have m3:MG O w μ w3:=MG.beside h0 h1.mg kg λk hk=>(aF h1.ou hk).1;refine⟨F7,MG.beside h0 m3 ks λk e=>by rw[e];exact h.ge,F7.put 2 _,ks.whole (kg.whole h1.pz (aA h1.ou h1.pz (by decide))) h.nz.1,h.nz,h.nr,h.ge,aj SG ks λk hk e=>aA SG F7 (by decide) (by rw[hk,e]),?_,aj Nj ks λk hk e=>aA Nj F7 (by decide) (by rw[hk,e]),λk hk e=> ?_⟩
 ·rw[nV,List.length_append];exact aj F3 ks λk hk e=>aA F3 F7 (by decide) (by rw[hk,e])
 ·have hkg:g=k:=by simpa[Value.ownBlock]using hk
  subst hkg;rcases GG with GG|GG
  ·exact h.ne g GG e
  ·have:=(aF h1.oo e).2;omega
theorem N7.app2(h0:ao O μ w){o:Obj}{w3:World}{g cap:Nat}{x:Bool}(h:N7 O μ w zb rb va vu vo all us os W)(F3:w3.ownsRow w.heap.size 4 1 (.slice (some ⟨g,0,none⟩) (os.length+1) cap) (os.length+1) (bp os++ [.bool x]))(FZ:(W.alloc o).grownBy w3 vo.ownBlock)(GG:vo.ownBlock=some g\/g=(W.alloc o).heap.size):
  Whole w3 rb 366 #[.pointer (some ⟨O.mb,0,none⟩),va,vu,vo]/\N7 O μ w zb rb va vu (.slice (some ⟨g,0,none⟩) (os.length+1) cap) all us (os++ [x]) (w3.setCell ⟨rb,3,none⟩ (.slice (some ⟨g,0,none⟩) (os.length+1) cap)):=by
 have ka:aa (λ_=>False) W (W.alloc o):=(aa.refl _ _).alloc _;have h1:=h.new ka;have kg:=aa.grown FZ;have F7:Whole w3 rb 366 #[.pointer (some ⟨O.mb,0,none⟩),va,vu,vo]:=kg.whole h1.pt (aA h1.oo h1.pt (by decide));have ks:aa (λk=>k=rb) w3 (w3.setCell ⟨rb,3,none⟩ (.slice (some ⟨g,0,none⟩) (os.length+1) cap)):=(aa.refl (λk=>k=rb) w3).setCell (p:=⟨rb,3,none⟩) (.inl rfl) _;have SG:=aj h1.oa kg λk hk e=>fq h1.oo h1.oa (by decide) hk e;have UD:=aj h1.ou kg λk hk e=>h1.ne k hk e;have m3:MG O w μ w3:=MG.beside h0 h1.mg kg λk hk=>(aF h1.oo hk).1;refine⟨F7,MG.beside h0 m3 ks λk e=>by rw[e];exact h.ge,F7.put 3 _,ks.whole (kg.whole h1.pz (aA h1.oo h1.pz (by decide))) h.nz.1,h.nz,h.nr,h.ge,aj SG ks λk hk e=>aA SG F7 (by decide) (by rw[hk,e]),aj UD ks λk hk e=>aA UD F7 (by decide) (by rw[hk,e]),?_,λk hk e=> ?_⟩
 ·rw[nV,List.length_append];exact aj F3 ks λk hk e=>aA F3 F7 (by decide) (by rw[hk,e])
 ·have hkg:g=k:=by simpa[Value.ownBlock]using e
  subst hkg;rcases GG with GG|GG
  ·exact h.ne g hk GG
  ·have:=(aF h1.ou hk).2;omega
theorem nw{m:Mm}:∀ {all:List Nat} {l:List (Nat×Bool)},qX m all=some l->l.length=all.length/\∀(i a:Nat),all[i]? =some a->∃(u:Nat) (o:Bool),sR a m=some u/\kM a m=some o/\l[i]? =some (u,o)
 | [],l,h=>by
  obtain rfl:=Fk h;exact⟨rfl,λi a ha=>by simp at ha⟩
 |a::r,l,h=>by
  obtain⟨u,h1,h2⟩:=Fi h;obtain⟨o,h3,h4⟩:=Fi h2;obtain⟨q,h5,h6⟩:=Fi h4;obtain rfl:=Fk h6;obtain⟨i1,i2⟩:=nw h5;refine⟨by simp[i1],λi b hb=> ?_⟩;cases i with
  |zero=>
   simp at hb;subst hb;exact⟨u,o,h1,h3,rfl⟩
  |succ i=>exact i2 i b (by simpa using hb)
theorem vq{m:Mm}:∀ {k a:Nat} {l:List Nat},iU m k a=some l->a<4294967296->∀x∈l,x<4294967296
 |0,a,l,h,_=>by
  obtain rfl:=Fk h;intro x hx;cases hx
 |k+1,a,l,h,ha=>by
  obtain⟨n,h1,h2⟩:=Fi h;obtain⟨r,h3,h4⟩:=Fi h2;obtain rfl:=Fk h4;intro x hx;rcases List.mem_cons.1 hx with rfl|hx
  ·exact ha
  ·exact vq h3 (jB h1) x hx
theorem nW{m:Mm}{l:List Nat}(h:gU m=some l):∀x∈l,x<4294967296:=by
 obtain⟨a,h1,h2⟩:=Fi h;obtain⟨n,h3,h4⟩:=Fi h2;exact vq h4 (aU h1 (by omega))
def Kw(l:List (Nat×Bool)):List Bool:=l.map λq=>decide (q.1=1)
def Ls(l:List (Nat×Bool)):List Bool:=l.map λq=>q.2
theorem DY(h:ao O μ w)(all:List Nat)(l:List (Nat×Bool))(h1:yA μ=some all)(h2:qX μ all=some l):Calls prog 350 #[.pointer (some ⟨O.mb,0,none⟩)] w λe w'=>
  ∃va vu vo,e= .returned (.agg #[.pointer (some ⟨O.mb,0,none⟩),va,vu,vo])/\w'.ownsRow w.heap.size 3 1 va all.length (aO all)/\w'.ownsRow w.heap.size 4 1 vu all.length (bp (Kw l))/\w'.ownsRow w.heap.size 4 1 vo all.length (bp (Ls l))/\MG O w μ w':=by
 obtain⟨ZO,Uq,Ts⟩:=Fi h1;by_cases Pr:100000<ZO.length
 ·rw[if_pos Pr]at Ts;cases Ts
 rw[if_neg Pr]at Ts;obtain rfl:=Fk Ts;obtain⟨G1,Ib⟩:=nw h2;have hl:ZO.length<=100000:=by omega
 obtain⟨i0,hi,G9,G8,G7⟩:=info_parts N6;obtain⟨all,hall⟩:=Fp ZO;rw[<-hall]at Uq G1 Ib hl h2⊢;have FR:∀a∈all,a<4294967296:=λa ha=>nW Uq a ha;obtain⟨w0,Fx⟩:=Fp (w.alloc (.cells #[.pointer none,.slice none 0 0,.slice none 0 0,.slice none 0 0] 366));have GK:MG O w μ w0:=by rw[Fx];exact(MG.refl h).alloc _
 have JH:Whole w0 w.heap.size 366 #[.pointer none,.slice none 0 0,.slice none 0 0,.slice none 0 0]:=by rw[Fx];exact Whole.new w _ _
 obtain⟨zb,Mp⟩:=Fp w.heap.size;rw[<-Mp]at JH;have Qo:=Fh (DT GK.has all Uq hl);have HH:=Fh h;have FE:=Fh GK;have Y5:=Fh JH;have WY:=Fh Mp;obtain⟨n,hn⟩:=Fp all.length;have HN:=Fh hn;have HGET:=Fh Ib;have QK:=Fh FR;have L0:Hid ((Kw l).length=n/\(Ls l).length=n):=Fh (by unfold Kw Ls;rw[List.length_map,List.length_map,hn,G1];exact⟨rfl,rfl⟩);rw[<-hn]at hl;clear h h1 h2 Uq Ts Pr hall G1 Ib GK JH hn FR;go_in;go_upto_region 1 with fail;rw[<-Fx,<-Mp];clear Fx Mp;go_wp2_with fail;refine Qo.o.mono ?_;rintro e w1⟨va,rfl,Rm,Gz⟩;have ZP:w1.ownsRow w.heap.size 3 1 va all.length (aO all):=aS Rm FE.o.kept.size;have WZ:=FE.o.trans Gz;have ZQ:=Gz.kept.whole Y5.o (HH.o.Fu (by rw[WY.o];exact Fm _));obtain⟨w2,FL⟩:=Fp (w1.alloc (.cells #[.pointer (some ⟨O.mb,0,none⟩),va,.slice none 0 0,.slice none 0 0] 366));obtain⟨rb,H9⟩:=Fp w1.heap.size;have k2:aa (λ_=>False) w1 w2:=by rw[FL];exact(aa.refl _ _).alloc _
 have ZK:N7 O μ w zb rb va (.slice none 0 0) (.slice none 0 0) all [] [] w2:=
  ⟨by rw[FL];exact WZ.alloc _,by rw[FL,H9];exact Whole.new w1 _ _,k2.whole ZQ id,⟨by have:=ZQ.lt;omega,HH.o.Fu (by rw[WY.o];exact Fm _)⟩,HH.o.Fu (by rw[H9];exact WZ.kept.size),by rw[H9];exact WZ.kept.size,aj ZP k2 λ_ _=>id,dm _ _ _ _,dm _ _ _ _,λk e=>by cases e⟩
 obtain⟨Aa,ca,hva⟩:=aw ZP;subst hva;have KO:=Fh ZK;have x1:=ZK.pt.cell 1;rw[<-HN.o]at x1;have x1':w2.cell? ⟨rb,1,none⟩=some (.slice Aa n ca):=x1;clear x1 Rm Gz ZP WZ ZQ k2 ZK;go_upto_region 2 with fail;rw[<-FL,<-H9];rw[<-HN.o];clear FL H9;go_wp2_with fail
 go_loopw [5,13] (λ_ UJ W=>∃(j:Nat) (vu vo:Value),j<=n/\UJ= .int .i64 j/\Hid (N7 O μ w zb rb (.slice Aa all.length ca) vu vo all ((Kw l).take j) ((Ls l).take j) W)) (λ_ UJ W=>match UJ with| .int _ m=>n-m.toNat|_=>0)
 case atStart=>exact⟨0,_,_,Nat.zero_le _,rfl,KO⟩
 case round=>
  obtain⟨j,vu,vo,hj,rfl,ZR⟩:=hrel;by_cases FR:j<n
  ·obtain⟨a,ha⟩:∃a,all[j]? =some a:=⟨_,Fl (by have:=HN.o;omega)⟩;obtain⟨u,o,hu,ho,hlj⟩:=HGET.o j a ha;have I7:=QK.o a (List.mem_of_getElem? ha);obtain⟨ga,Ty,_,_,Lr⟩:=bC ZR.o.oa (by have:=HN.o;omega) (by decide);subst Ty;have hcj:=Lr j _ (fv ha);obtain⟨bk,Jg,hbu⟩:=Fi hu;have hbu:bk.used=u:=Fk hbu;subst hbu;have Tu:=Fh (λW (hs:N7 O μ w zb rb (.slice (some ⟨ga,0,none⟩) all.length ca) vu vo all ((Kw l).take j) ((Ls l).take j) W)=>(Cb hs.mg.has a bk I7 Jg).mono λe w' hq=>(⟨_,hq.1,rfl,hs.on HH.o hq.2 rfl⟩:∃x,e= .returned x/\x= .bool (decide (bk.used=1))/\N7 O μ w zb rb (.slice (some ⟨ga,0,none⟩) all.length ca) vu vo all ((Kw l).take j) ((Ls l).take j) w'));have hlu:((Kw l).take j).length=j:=by rw[List.length_take,L0.o.1];omega
   have OF:((Ls l).take j).length=j:=by rw[List.length_take,L0.o.2];omega
   obtain⟨ub,hub⟩:=Fp (decide (bk.used=1));rw[<-hub]at Tu;have hub2:(Kw l)[j]? =some ub:=by unfold Kw;rw[List.getElem?_map,hlj,hub];rfl
   have SH:(Ls l)[j]? =some o:=by unfold Ls;rw[List.getElem?_map,hlj];rfl
   have HUB:=Fh hub2;have HOB:=Fh SH;have hro:=λvu us W (hs:N7 O μ w zb rb (.slice (some ⟨ga,0,none⟩) all.length ca) vu vo all us ((Ls l).take j) W)=>(pG hs.mg.has a o I7 ho).mono λe w' hq=>(⟨_,hq.1,rfl,hs.on HH.o hq.2 rfl⟩:∃x,e= .returned x/\x= .bool o/\N7 O μ w zb rb (.slice (some ⟨ga,0,none⟩) all.length ca) vu vo all us ((Ls l).take j) w');have Qq:=Fh hro;obtain⟨tu,Tz⟩:=Fp ((Kw l).take j);obtain⟨Ip,RN⟩:=Fp ((Ls l).take j);rw[<-Tz]at ZR Tu hlu;rw[<-RN]at ZR Tu OF;simp only [<-RN]at Qq;have HLU:=Fh hlu;have VO:=Fh OF;have HTU:=Fh Tz;have HTO:=Fh RN;have Gu:=ZR.o.new ((aa.refl (λ_=>False) wr).drew);have x2:wr.cell? ⟨rb,2,none⟩=some vu:=ZR.o.pt.cell 2;have x2d:wr.drew.cell? ⟨rb,2,none⟩=some vu:=Gu.pt.cell 2;clear ha hu ho Jg hlj Lr hub hub2 SH hlu OF hro Tz RN;go_upto_region 5 with fail
   go_region_law (first
    |(refine aX rfl 362 #[.pointer (some ⟨O.mb,0,none⟩),.int .i64 (a:Int)] ?_ _ (Tu.o _ Gu) ?_
      ·(go_simp;done)
      rintro v5 w5⟨rfl,Ik⟩;have Qr:=Fh Ik;have z2:w5.cell? ⟨rb,2,none⟩=some vu:=Ik.pt.cell 2;have z2a:(w5.alloc (.cells #[.bool ub] 4)).cell? ⟨rb,2,none⟩=some vu:=((aa.refl (λ_=>False) w5).alloc _).cell z2 id;have Yd:w.heap.size<=(w5.alloc (.cells #[.bool ub] 4)).heap.size:=(Ik.mg.alloc _).kept.size;clear Ik)
    |(refine step_append_lies _ rfl _ _ _ rfl w.heap.size 4 i0 _ 1 1 underlying65 hi G9 G8 G7 rfl (by decide) vu tu.length (bp tu) rfl (Qr.o.ou.alloc _) ⟨_,0,none⟩ 1 1 [.bool ub] rfl rfl (iL _ _ _) (λx hx=>by simp at hx;subst hx;rfl) (by decide) (by rw[HLU.o];unfold maxLen;omega) (by rw[HLU.o];omega) Yd _ rfl ?_
      intro g cap w6 Yk Hm hat6 hlt6;have Gy:=N7.ZL HH.o Qr.o Yk Hm hat6;have y2:w6.cell? ⟨rb,2,none⟩=some vu:=Gy.1.cell 2;have y2f:=Gy.1.frozen 2;have MQ:=Fh Gy.2;clear Gy Yk Hm hat6 hlt6))
   all_goals
    have Gy:=MQ.o;obtain⟨w7,Li⟩:=Fp (w6.setCell ⟨rb,2,none⟩ (.slice (some ⟨g,0,none⟩) (tu.length+1) cap));rw[<-Li]at Gy;have HS7:=Fh Gy;clear Gy MQ;go_upto_region 6 with fail;rw[<-Li];clear Li;have Wo:=HS7.o.new ((aa.refl (λ_=>False) w7).drew);have x3:w7.cell? ⟨rb,3,none⟩=some vo:=HS7.o.pt.cell 3;have x3d:w7.drew.cell? ⟨rb,3,none⟩=some vo:=Wo.pt.cell 3
    go_region_law (first
     |(refine aX rfl 108 #[.pointer (some ⟨O.mb,0,none⟩),.int .i64 (a:Int)] ?_ _ (Qq.o _ _ _ Wo) ?_
       ·(go_simp;done)
       rintro v8 w8⟨rfl,VK⟩;have HS8:=Fh VK;have z3:w8.cell? ⟨rb,3,none⟩=some vo:=VK.pt.cell 3;have z3a:(w8.alloc (.cells #[.bool o] 4)).cell? ⟨rb,3,none⟩=some vo:=((aa.refl (λ_=>False) w8).alloc _).cell z3 id;have hbs8:w.heap.size<=(w8.alloc (.cells #[.bool o] 4)).heap.size:=(VK.mg.alloc _).kept.size;clear VK)
     |(refine step_append_lies _ rfl _ _ _ rfl w.heap.size 4 i0 _ 1 1 underlying65 hi G9 G8 G7 rfl (by decide) vo Ip.length (bp Ip) rfl (HS8.o.oo.alloc _) ⟨_,0,none⟩ 1 1 [.bool o] rfl rfl (iL _ _ _) (λx hx=>by simp at hx;subst hx;rfl) (by decide) (by rw[VO.o];unfold maxLen;omega) (by rw[VO.o];omega) hbs8 _ rfl ?_
       intro g9 cap9 w9 N5 UQ hat9 hlt9;have Gy:=N7.app2 HH.o HS8.o N5 UQ hat9;have u3:w9.cell? ⟨rb,3,none⟩=some vo:=Gy.1.cell 3;have u3f:=Gy.1.frozen 3;have HAPQ:=Fh Gy.2;clear Gy N5 UQ hat9 hlt9))
    all_goals
     have ZS:=HAPQ.o;have e1:tu++ [ub]=(Kw l).take (j+1):=by rw[HTU.o,List.take_add_one,HUB.o];rfl
     have e2:Ip++ [o]=(Ls l).take (j+1):=by rw[HTO.o,List.take_add_one,HOB.o];rfl
     rw[e1,e2]at ZS;have HZ:=Fh ZS;clear ZS e1 e2 HAPQ;go_wp2_with fail;exact⟨⟨j+1,_,_,by omega,by go_num,HZ⟩,by simp;omega⟩
  ·have Ul:j=n:=by omega
   subst Ul;have e1:(Kw l).take j=Kw l:=List.take_of_length_le (by have:=L0.o.1;omega);have e2:(Ls l).take j=Ls l:=List.take_of_length_le (by have:=L0.o.2;omega);have Pr:(Kw l).length=all.length:=L0.o.1.trans HN.o;have Iu:(Ls l).length=all.length:=L0.o.2.trans HN.o;have hrj:=ZR.o;rw[e1,e2]at hrj;have ou:=hrj.ou;have oo:=hrj.oo;rw[Pr]at ou;rw[Iu]at oo;obtain⟨Au,cu,WV⟩:=aw ou;obtain⟨Ao,co,Uj⟩:=aw oo;subst WV;subst Uj;have OK:=Fh hrj;have VU:=Fh ou;have HOO:=Fh oo;have y0:wr.cell? ⟨rb,0,none⟩=some (.pointer (some ⟨O.mb,0,none⟩)):=OK.o.pt.cell 0;have y1:wr.cell? ⟨rb,1,none⟩=some (.slice Aa all.length ca):=OK.o.pt.cell 1;have y2:wr.cell? ⟨rb,2,none⟩=some (.slice Au all.length cu):=OK.o.pt.cell 2;have y3:wr.cell? ⟨rb,3,none⟩=some (.slice Ao all.length co):=OK.o.pt.cell 3;have z0:=OK.o.pz.cell 0;have z1:=OK.o.pz.cell 1;have z2:=OK.o.pz.cell 2;have z3:=OK.o.pz.cell 3;have f0:=OK.o.pz.frozen 0;have f1:=OK.o.pz.frozen 1;have f2:=OK.o.pz.frozen 2;have f3:=OK.o.pz.frozen 3;clear ZR e1 e2 Pr Iu hrj ou oo;go_wp2_with fail;refine bodyPost_ret (results_cell_row rfl _ _ zb 366 _ (0,0) _ rfl (DX OK.o.pz _ _ _ _) underlying366 rfl (by kernel_rfl)) rfl ?_;have kz:aa (λk=>k=zb) wr ((((wr.setCell ⟨zb,0,none⟩ (.pointer (some ⟨O.mb,0,none⟩))).setCell ⟨zb,1,none⟩ (.slice Aa all.length ca)).setCell ⟨zb,2,none⟩ (.slice Au all.length cu)).setCell ⟨zb,3,none⟩ (.slice Ao all.length co)):=
    ((((aa.refl (λk=>k=zb) wr).setCell (p:=⟨zb,0,none⟩) (.inl rfl) _).setCell (p:=⟨zb,1,none⟩) (.inl rfl) _).setCell (p:=⟨zb,2,none⟩) (.inl rfl) _).setCell (p:=⟨zb,3,none⟩) (.inl rfl) _
   exact⟨_,_,_,rfl,aj OK.o.oa kz λk hk (e:k=zb)=>aA OK.o.oa OK.o.pz (by decide) (by rw[hk,e]),aj VU.o kz λk hk (e:k=zb)=>aA VU.o OK.o.pz (by decide) (by rw[hk,e]),aj HOO.o kz λk hk (e:k=zb)=>aA HOO.o OK.o.pz (by decide) (by rw[hk,e]),MG.beside HH.o OK.o.mg kz λk e=>by rw[e,WY.o];exact Fm _⟩
end
end Go.Proofs.YtifkphcaelafjaaGreatDoor
