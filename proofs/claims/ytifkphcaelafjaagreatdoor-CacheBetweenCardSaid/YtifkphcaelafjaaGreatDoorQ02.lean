/-
  Lemmas on the way to the row. No condition beyond their own.
-/
import Derived.Laws.MakeOwn
import Derived.Maps.AppendAt
import Derived.Test.YtifkphcaelafjaaGreatDoorQ01
set_option maxHeartbeats 25600000
set_option maxRecDepth 100000
set_option linter.unusedVariables false
set_option linter.unusedSimpArgs false
namespace Go.Proofs.YtifkphcaelafjaaGreatDoor
open Tryz
open Go.RowKit Go.Colm Go.FC Go.Maps
section
variable{O:av}{μ:Mm}{w:World}
theorem zf(n:Nat)(w:World)(h:n<9223372036854775808):Calls prog 329 #[.int .u64 (n:Int)] w λe w'=>e= .returned (.int .i64 (n:Int))/\w'=w:=by
 go_in;go_wp2;go_ret;exact⟨rfl,rfl⟩
theorem zg(n:Nat)(w:World)(h:n<4294967296):Calls prog 330 #[.int .u64 (n:Int)] w λe w'=>e= .returned (.int .u32 (n:Int))/\w'=w:=by
 go_in;go_wp2;go_ret;exact⟨rfl,rfl⟩
theorem zh(n:Nat)(w:World)(h:n<65536):Calls prog 331 #[.int .u64 (n:Int)] w λe w'=>e= .returned (.int .u16 (n:Int))/\w'=w:=by
 go_in;go_wp2;go_ret;exact⟨rfl,rfl⟩
theorem Ds(u:Nat)(w:World)(h:u<=1):Calls prog 326 #[.bool (decide (u=1))] w λe w'=>e= .returned (.int .u64 (u:Int))/\w'=w:=by
 go_in;have:u=0\/u=1:=by omega
 rcases this with rfl|rfl
 ·go_wp2;go_ret;exact⟨rfl,rfl⟩
 ·go_wp2;go_ret;exact⟨rfl,rfl⟩
def G0(b:Bk):Array Value:= #[.int .i64 (b.tag:Int),.int .i64 (b.Ft:Int),.bool (decide (b.used=1)),.int .i64 (b.label:Int),.int .u32 (b.name:Int),.int .u32 (b.next:Int),.int .u32 (b.prev:Int),.int .u32 (b.refs:Int),.int .u64 (b.FB:Int),.int .u16 (b.typ:Int),.int .i64 (b.size:Int),.int .u32 (b.hash:Int)]
structure qC(b:Bk):Prop where
 tag:b.tag<256
 Ft:b.Ft<256
 used:b.used<256
 label:b.label<256
 name:b.name<4294967296
 next:b.next<4294967296
 prev:b.prev<4294967296
 FB:b.FB<18446744073709551616
 typ:b.typ<65536
 size:b.size<65536
 hash:b.hash<4294967296
 refs:b.refs<4294967296
def dO(b:Bk):Array Value:= #[.int .u64 (b.tag:Int),.int .u64 (b.Ft:Int),.int .u64 (b.used:Int),.int .u64 (b.label:Int),.int .u64 (b.name:Int),.int .u64 (b.next:Int),.int .u64 (b.prev:Int),.int .u64 (b.FB:Int),.int .u64 (b.typ:Int),.int .u64 (b.size:Int),.int .u64 (b.hash:Int),.int .u64 (b.refs:Int)]
theorem bI(w:World)(o:Obj):(w.alloc o).heap.size=w.heap.size+1:=Array.size_push _
theorem ff{w:World}{rb:Nat}{T:TypeId}{c0 c1 c2 c3 c4 c5 c6 c7 c8 c9 KN Kr:Value}(h:Whole w rb T #[c0,c1,c2,c3,c4,c5,c6,c7,c8,c9,KN,Kr])(x0 x1 x2 x3 x4 x5 x6 x7 x8 x9 IQ I2:Value):Whole ((((((((((((w.setCell ⟨rb,0,none⟩ x0).setCell ⟨rb,1,none⟩ x1).setCell ⟨rb,2,none⟩ x2).setCell ⟨rb,3,none⟩ x3).setCell ⟨rb,4,none⟩ x4).setCell ⟨rb,5,none⟩ x5).setCell ⟨rb,6,none⟩ x6).setCell ⟨rb,7,none⟩ x7).setCell ⟨rb,8,none⟩ x8).setCell ⟨rb,9,none⟩ x9).setCell ⟨rb,10,none⟩ IQ).setCell ⟨rb,11,none⟩ I2) rb T #[x0,x1,x2,x3,x4,x5,x6,x7,x8,x9,IQ,I2]:=by
 have k:=(((((((((((h.put 0 x0).put 1 x1).put 2 x2).put 3 x3).put 4 x4).put 5 x5).put 6 x6).put 7 x7).put 8 x8).put 9 x9).put 10 IQ).put 11 I2;simp only [List.setIfInBounds_toArray,List.set_cons_zero,List.set_cons_succ]at k;exact k
theorem nZ{w W:World}{rb m:Nat}{T T1:TypeId}{ys cs:Array Value}(h:Below w.heap.size w W/\Whole W m T1 ys/\Whole W rb T cs)(hn:w.heap.size<=rb)(hm:m<rb)(i:Nat)(x:Value):Below w.heap.size w (W.setCell ⟨rb,i,none⟩ x)/\Whole (W.setCell ⟨rb,i,none⟩ x) m T1 ys/\Whole (W.setCell ⟨rb,i,none⟩ x) rb T (cs.setIfInBounds i x):=
 ⟨aa.F1 (S:=λk=>k=rb) ((aa.below h.1 (λk=>k=rb)).setCell (p:=⟨rb,i,none⟩) (.inl rfl) x) (Fm _) (λk hk e=>by omega),aa.whole (S:=λk=>k=rb) ((aa.refl (λk=>k=rb) W).setCell (p:=⟨rb,i,none⟩) (.inl rfl) x) h.2.1 (by show¬_=_;omega),h.2.2.put i x⟩
theorem El{w W:World}{rb m:Nat}{T T1:TypeId}{ys:Array Value}{c0 c1 c2 c3 c4 c5 c6 c7 c8 c9 KN Kr:Value}(k1:Below w.heap.size w W)(k2:Whole W m T1 ys)(h:Whole W rb T #[c0,c1,c2,c3,c4,c5,c6,c7,c8,c9,KN,Kr])(hn:w.heap.size<=rb)(hm:m<rb)(x0 x1 x2 x3 x4 x5 x6 x7 x8 x9 IQ I2:Value):∃w8,w8=(((((((((((W.setCell ⟨rb,0,none⟩ x0).setCell ⟨rb,1,none⟩ x1).setCell ⟨rb,2,none⟩ x2).setCell ⟨rb,3,none⟩ x3).setCell ⟨rb,4,none⟩ x4).setCell ⟨rb,5,none⟩ x5).setCell ⟨rb,6,none⟩ x6).setCell ⟨rb,7,none⟩ x7).setCell ⟨rb,8,none⟩ x8).setCell ⟨rb,9,none⟩ x9).setCell ⟨rb,10,none⟩ IQ).setCell ⟨rb,11,none⟩ I2/\Below w.heap.size w w8/\Whole w8 m T1 ys/\Whole w8 rb T #[x0,x1,x2,x3,x4,x5,x6,x7,x8,x9,IQ,I2]:=
 by
 have k:=nZ (nZ (nZ (nZ (nZ (nZ (nZ (nZ (nZ (nZ (nZ (nZ ⟨k1,k2,h⟩ hn hm 0 x0) hn hm 1 x1) hn hm 2 x2) hn hm 3 x3) hn hm 4 x4) hn hm 5 x5) hn hm 6 x6) hn hm 7 x7) hn hm 8 x8) hn hm 9 x9) hn hm 10 IQ) hn hm 11 I2;simp only [List.setIfInBounds_toArray,List.set_cons_zero,List.set_cons_succ]at k;exact⟨_,rfl,k⟩
theorem dN{ops:Array Oper}{a0:Act}{F:Nat->Value->World->Prop}{L:Array Bool}{a:Act}{w:World}(h:eE .any ops a0 F L a w){j:Nat}(hL:L.getD j false=true){o:Oper}{t:Tmp}(hj:ops[j]? =some o)(hd:o.dst=some t):∃v,a.tmps[t]? =some v/\F j v w:=h.Jo hj hd hL
theorem toI{n:Nat}{t:Tmp}{a:Act}(_:a.tmps[t]? =some (.int .u64 (n:Int)))(w:World)(h:n<9223372036854775808):Calls prog 329 #[.int .u64 (n:Int)] w λe w'=>e= .returned (.int .i64 (n:Int))/\w'=w:=zf n w h
theorem toU{n:Nat}{t:Tmp}{a:Act}(_:a.tmps[t]? =some (.int .u64 (n:Int)))(w:World)(h:n<4294967296):Calls prog 330 #[.int .u64 (n:Int)] w λe w'=>e= .returned (.int .u32 (n:Int))/\w'=w:=zg n w h
theorem toH{n:Nat}{t:Tmp}{a:Act}(_:a.tmps[t]? =some (.int .u64 (n:Int)))(w:World)(h:n<65536):Calls prog 331 #[.int .u64 (n:Int)] w λe w'=>e= .returned (.int .u16 (n:Int))/\w'=w:=zh n w h
theorem xR{P:Program}{ops:Array Oper}{Q:Exit->Act->World->Prop}{o:Oper}{a:Act}{w:World}{K:Act->World->Prop}{f:FuncId}{args:Array Value}{v:Value}(hg:o.guard=none)(hc:Calls P f args w λe w'=>e= .returned v/\w'=w)(Nz:(execOp a.eval o).run P w= .ok (.enter f args) w)(h:K (a.put o.dst v) w):
 if Region.wanted o (yielded ops a.tmps)=true then Oper.wp P o a w K Q else K (a.put o.dst undef) w:=
 xQ hg f args Nz (λu w'=>u=v/\w'=w) (hc.mono λe w' h=>⟨_,h.1,rfl,h.2⟩) (λu w' k=>by obtain⟨rfl,rfl⟩:=k;exact h)
theorem aZ{w:World}{rb:Nat}{T:TypeId}{c0 c1 c2 c3 c4 c5 c6 c7 c8 c9 KN Kr:Value}(h:Whole w rb T #[c0,c1,c2,c3,c4,c5,c6,c7,c8,c9,KN,Kr]):w.cell? ⟨rb,0,none⟩=some c0/\w.cell? ⟨rb,1,none⟩=some c1/\w.cell? ⟨rb,2,none⟩=some c2/\w.cell? ⟨rb,3,none⟩=some c3/\w.cell? ⟨rb,4,none⟩=some c4/\w.cell? ⟨rb,5,none⟩=some c5/\w.cell? ⟨rb,6,none⟩=some c6/\w.cell? ⟨rb,7,none⟩=some c7/\w.cell? ⟨rb,8,none⟩=some c8/\w.cell? ⟨rb,9,none⟩=some c9/\w.cell? ⟨rb,10,none⟩=some KN/\w.cell? ⟨rb,11,none⟩=some Kr:=⟨h.cell 0,h.cell 1,h.cell 2,h.cell 3,h.cell 4,h.cell 5,h.cell 6,h.cell 7,h.cell 8,h.cell 9,h.cell 10,h.cell 11⟩
theorem fI{w:World}{rb:Nat}{T:TypeId}{cs:Array Value}(h:Whole w rb T cs):w.frozen? ⟨rb,0,none⟩=false/\w.frozen? ⟨rb,1,none⟩=false/\w.frozen? ⟨rb,2,none⟩=false/\w.frozen? ⟨rb,3,none⟩=false/\w.frozen? ⟨rb,4,none⟩=false/\w.frozen? ⟨rb,5,none⟩=false/\w.frozen? ⟨rb,6,none⟩=false/\w.frozen? ⟨rb,7,none⟩=false/\w.frozen? ⟨rb,8,none⟩=false/\w.frozen? ⟨rb,9,none⟩=false/\w.frozen? ⟨rb,10,none⟩=false/\w.frozen? ⟨rb,11,none⟩=false:=⟨h.frozen 0,h.frozen 1,h.frozen 2,h.frozen 3,h.frozen 4,h.frozen 5,h.frozen 6,h.frozen 7,h.frozen 8,h.frozen 9,h.frozen 10,h.frozen 11⟩
def NI(T1 T2:TypeId)(xs:Array Value)(w:World)(rb:Nat)(W:World):Prop:=Below w.heap.size w W/\Whole W w.heap.size T1 xs/\∃c0 c1 c2 c3 c4 c5 c6 c7 c8 c9 KN Kr,Whole W rb T2 #[c0,c1,c2,c3,c4,c5,c6,c7,c8,c9,KN,Kr]
def NJ(T2:TypeId)(ys:Array Value)(w:World)(rb:Nat)(W:World):Prop:=Below w.heap.size w W/\Whole W rb T2 ys
def NR(T1 T2:TypeId)(xs ys:Array Value)(w:World)(rb:Nat)(a c:World):Prop:=(NI T1 T2 xs w rb a->NI T1 T2 xs w rb c)/\(NJ T2 ys w rb a->NJ T2 ys w rb c)
theorem NR.below{T1 T2:TypeId}{xs ys:Array Value}{w W W2:World}{rb:Nat}(k:Below W.heap.size W W2):NR T1 T2 xs ys w rb W W2:=
 ⟨λ⟨h1,h2,c0,c1,c2,c3,c4,c5,c6,c7,c8,c9,KN,Kr,h3⟩=>⟨ah h1 k,(k.block _ h2.lt).trans h2,c0,c1,c2,c3,c4,c5,c6,c7,c8,c9,KN,Kr,(k.block _ h3.lt).trans h3⟩,λ⟨h1,h2⟩=>⟨ah h1 k,(k.block _ h2.lt).trans h2⟩⟩
def nmF(w:World)(b:Bk)(rb:Nat):Nat->Value->World->Prop
 |0,v,_=>v= .pointer (some ⟨w.heap.size,0,none⟩)
 |1,v,_=>v= .int .i64 (b.tag:Int)
 |2,v,_=>v= .int .u64 (b.tag:Int)
 |3,v,_=>v= .pointer (some ⟨w.heap.size,1,none⟩)
 |4,v,_=>v= .int .i64 (b.Ft:Int)
 |5,v,_=>v= .int .u64 (b.Ft:Int)
 |6,v,_=>v= .pointer (some ⟨w.heap.size,2,none⟩)
 |7,v,_=>v= .bool (decide (b.used=1))
 |8,v,_=>v= .int .u64 (b.used:Int)
 |9,v,_=>v= .pointer (some ⟨w.heap.size,3,none⟩)
 |10,v,_=>v= .int .i64 (b.label:Int)
 |11,v,_=>v= .int .u64 (b.label:Int)
 |12,v,_=>v= .pointer (some ⟨w.heap.size,4,none⟩)
 |13,v,_=>v= .int .u32 (b.name:Int)
 |14,v,_=>v= .int .u64 (b.name:Int)
 |15,v,_=>v= .pointer (some ⟨w.heap.size,5,none⟩)
 |16,v,_=>v= .int .u32 (b.next:Int)
 |17,v,_=>v= .int .u64 (b.next:Int)
 |18,v,_=>v= .pointer (some ⟨w.heap.size,6,none⟩)
 |19,v,_=>v= .int .u32 (b.prev:Int)
 |20,v,_=>v= .int .u64 (b.prev:Int)
 |21,v,_=>v= .pointer (some ⟨w.heap.size,8,none⟩)
 |22,v,_=>v= .int .u64 (b.FB:Int)
 |23,v,_=>v= .pointer (some ⟨w.heap.size,9,none⟩)
 |24,v,_=>v= .int .u16 (b.typ:Int)
 |25,v,_=>v= .int .u64 (b.typ:Int)
 |26,v,_=>v= .pointer (some ⟨w.heap.size,10,none⟩)
 |27,v,_=>v= .int .i64 (b.size:Int)
 |28,v,_=>v= .int .u64 (b.size:Int)
 |29,v,_=>v= .pointer (some ⟨w.heap.size,11,none⟩)
 |30,v,_=>v= .int .u32 (b.hash:Int)
 |31,v,_=>v= .int .u64 (b.hash:Int)
 |32,v,_=>v= .pointer (some ⟨w.heap.size,7,none⟩)
 |33,v,_=>v= .int .u32 (b.refs:Int)
 |34,v,_=>v= .int .u64 (b.refs:Int)
 |35,v,_=>v= .agg #[.int .u64 (b.tag:Int),.int .u64 (b.Ft:Int),.int .u64 (b.used:Int),.int .u64 (b.label:Int),.int .u64 (b.name:Int),.int .u64 (b.next:Int),.int .u64 (b.prev:Int),.int .u64 (b.FB:Int),.int .u64 (b.typ:Int),.int .u64 (b.size:Int),.int .u64 (b.hash:Int),.int .u64 (b.refs:Int)]
 |36,v,W=>NJ 305 (dO b) w rb W
 |_,_,_=>True
theorem Bg(w:World)(b:Bk)(rb:Nat):∀(j:Nat) (v:Value) (W W':World),NR 165 305 (G0 b) (dO b) w rb W W'->nmF w b rb j v W->nmF w b rb j v W':=by
 intro j v W W' hb h;unfold nmF at h⊢;split at h<;>first|exact h|exact hb.2 h|trivial
theorem nN(b:Bk)(w:World)(h:qC b)(hu:b.used<=1):Calls prog 264 #[.agg (G0 b)] w λe w'=>e= .returned (.agg (dO b))/\Below w.heap.size w w':=by
 obtain⟨h1,h2,h3,h4,h5,h6,h7,h8,h9,Ta,h11,h12⟩:=h;obtain⟨w1,FJ⟩:=Fp (w.alloc (.cells (G0 b) 165));obtain⟨w0,Fx⟩:=Fp (w1.alloc (.cells #[.int .u64 0,.int .u64 0,.int .u64 0,.int .u64 0,.int .u64 0,.int .u64 0,.int .u64 0,.int .u64 0,.int .u64 0,.int .u64 0,.int .u64 0,.int .u64 0] 305));have Gp:Whole w1 w.heap.size 165 (G0 b):=by rw[FJ];exact Whole.new w _ _
 have FN:Below w.heap.size w w1:=by rw[FJ];exact(Below.refl _ w).alloc (Fm _) _
 have Gd:Whole w0 w1.heap.size 305 #[.int .u64 0,.int .u64 0,.int .u64 0,.int .u64 0,.int .u64 0,.int .u64 0,.int .u64 0,.int .u64 0,.int .u64 0,.int .u64 0,.int .u64 0,.int .u64 0]:=by rw[Fx];exact Whole.new w1 _ _
 have FM:Below w1.heap.size w1 w0:=by rw[Fx];exact(Below.refl _ w1).alloc (Fm _) _
 have Gc:=(aa.below FM λ_=>False).whole Gp id;have FR:w.heap.size<w1.heap.size:=Gp.lt;obtain⟨rb,H9⟩:=Fp (w.heap.size+1);have F8:w1.heap.size=w.heap.size+1:=by rw[FJ];exact bI _ _
 have HI:Hid (NI 165 305 (G0 b) w w1.heap.size w0.drew):=Fh ⟨ah (ah FN FM) ((Below.refl _ _).drew),Gc,_,_,_,_,_,_,_,_,_,_,_,_,Gd⟩;rw[F8,<-H9]at HI FR;clear Gp FN Gd FM Gc F8;go_in;go_upto_region 1 with fail;rw[<-FJ];rw[<-Fx];rw[<-H9];clear FJ Fx H9;refine dq (nmF w b rb) (NR 165 305 (G0 b) (dO b) w rb) rfl (n:=39) rfl (by kernel_rfl) (by kernel_rfl) (λw=>⟨id,id⟩) (λ_ _ _ h k=>⟨λx=>k.1 (h.1 x),λx=>k.2 (h.2 x)⟩) (Bg _ _ _) ?_ ?_
 ·skip
  refine(al ?_ (al ?_ (al ?_ (al ?_ (al ?_ (al ?_ (al ?_ (al ?_ (al ?_ (al ?_ (al ?_ (al ?_ (al ?_ (al ?_ (al ?_ (al ?_ (al ?_ (al ?_ (al ?_ (al ?_ (al ?_ (al ?_ (al ?_ (al ?_ (al ?_ (al ?_ (al ?_ (al ?_ (al ?_ (al ?_ (al ?_ (al ?_ (al ?_ (al ?_ (al ?_ (al ?_ (al ?_ j3)))))))))))))))))))))))))))))))))))))
  all_goals intro L9 a9 W9 hm hn hp hr K9 hK
  all_goals try(have e1:a9.tmps[1]? =some (.pointer (some ⟨w.heap.size,0,none⟩)):=(hm.IL hn (by rfl)).trans rfl;refine dg rfl ?_ (hK _ _ rfl (NR.below (Below.refl _ _)));go_simp;done)
  all_goals try(obtain⟨v,e,rfl⟩:=dN hm (hp _ ⟨.head _⟩ rfl) rfl rfl;obtain⟨y0,y1,y2,y3,y4,y5,y6,y7,y8,y9,Ic,Ie⟩:=aZ (hr.1 HI.o).2.1;first|(refine dg rfl ?_ (hK _ _ rfl (NR.below (Below.refl _ _)));go_simp<;>(first|(rw[IntKind.wrap_u64];omega)|(rw[IntKind.wrap_u32];omega)|(rw[IntKind.wrap_u16];omega)|(rw[IntKind.wrap_i64];omega));done)|(refine xR rfl (Ds b.used W9 hu) ?_ (hK _ _ rfl (NR.below (Below.refl _ _)));go_simp;done))
  ·
   obtain⟨v2,e5,rfl⟩:=dN hm (hp ⟨2,.data⟩ (by simp) rfl) rfl rfl;obtain⟨v5,e8,rfl⟩:=dN hm (hp ⟨5,.data⟩ (by simp) rfl) rfl rfl;obtain⟨v8,e11,rfl⟩:=dN hm (hp ⟨8,.data⟩ (by simp) rfl) rfl rfl;obtain⟨v11,e14,rfl⟩:=dN hm (hp ⟨11,.data⟩ (by simp) rfl) rfl rfl;obtain⟨v14,e17,rfl⟩:=dN hm (hp ⟨14,.data⟩ (by simp) rfl) rfl rfl;obtain⟨v17,e20,rfl⟩:=dN hm (hp ⟨17,.data⟩ (by simp) rfl) rfl rfl;obtain⟨v20,e23,rfl⟩:=dN hm (hp ⟨20,.data⟩ (by simp) rfl) rfl rfl;obtain⟨v22,e25,rfl⟩:=dN hm (hp ⟨22,.data⟩ (by simp) rfl) rfl rfl;obtain⟨v25,e28,rfl⟩:=dN hm (hp ⟨25,.data⟩ (by simp) rfl) rfl rfl;obtain⟨v28,e31,rfl⟩:=dN hm (hp ⟨28,.data⟩ (by simp) rfl) rfl rfl;obtain⟨v31,e34,rfl⟩:=dN hm (hp ⟨31,.data⟩ (by simp) rfl) rfl rfl;obtain⟨v34,e37,rfl⟩:=dN hm (hp ⟨34,.data⟩ (by simp) rfl) rfl rfl;exact dg rfl (by go_simp) (hK _ _ rfl (NR.below (Below.refl _ _)))
  ·
   have e2:a9.tmps[2]? =some (.pointer (some ⟨rb,0,none⟩)):=(hm.IL hn (by rfl)).trans rfl;obtain⟨v35,e38,rfl⟩:=dN hm (hp _ ⟨.head _⟩ rfl) rfl rfl;obtain⟨k1,k2,c0,c1,c2,c3,c4,c5,c6,c7,c8,c9,KN,Kr,k3⟩:=hr.1 HI.o;obtain⟨f0,f1,f2,f3,f4,f5,f6,f7,f8,f9,f10,f11⟩:=fI k3;obtain⟨z0,z1,z2,z3,z4,z5,z6,z7,z8,z9,XF,XG⟩:=aZ k3;obtain⟨w8,Ql,MB,JD,KA⟩:=El k1 k2 k3 (by omega) (by omega) (.int .u64 (b.tag:Int)) (.int .u64 (b.Ft:Int)) (.int .u64 (b.used:Int)) (.int .u64 (b.label:Int)) (.int .u64 (b.name:Int)) (.int .u64 (b.next:Int)) (.int .u64 (b.prev:Int)) (.int .u64 (b.FB:Int)) (.int .u64 (b.typ:Int)) (.int .u64 (b.size:Int)) (.int .u64 (b.hash:Int)) (.int .u64 (b.refs:Int));refine Bf (w':=w8) rfl (by rw[Ql];go_simp) (hK undef _ ⟨MB,KA⟩ ⟨λ_=>⟨MB,JD,_,_,_,_,_,_,_,_,_,_,_,_,KA⟩,λ_=>⟨MB,KA⟩⟩)
 ·intro vs w3 hF hR;have h8:NJ 305 (dO b) w rb w3:=hF 36 (by decide);have H8:=Fh h8;clear hF h8 hR HI;simp only [cw,Act.put,List.setIfInBounds_toArray,List.set_cons_zero,List.set_cons_succ,Nat.zero_add,Nat.reduceAdd];go_wp2_with fail;refine bodyPost_ret (results_cell_row rfl _ _ rb 305 _ (0,0) _ rfl H8.o.2 underlying305 rfl (by kernel_rfl)) rfl ?_;exact⟨rfl,H8.o.1⟩
def bkF(w:World)(b:Bk)(rb:Nat):Nat->Value->World->Prop
 |0,v,_=>v= .pointer (some ⟨w.heap.size,0,none⟩)
 |1,v,_=>v= .int .u64 (b.tag:Int)
 |2,v,_=>v= .int .i64 (b.tag:Int)
 |3,v,_=>v= .pointer (some ⟨w.heap.size,1,none⟩)
 |4,v,_=>v= .int .u64 (b.Ft:Int)
 |5,v,_=>v= .int .i64 (b.Ft:Int)
 |6,v,_=>v= .pointer (some ⟨w.heap.size,2,none⟩)
 |7,v,_=>v= .int .u64 (b.used:Int)
 |8,v,_=>v= .bool (decide (b.used=1))
 |9,v,_=>v= .pointer (some ⟨w.heap.size,3,none⟩)
 |10,v,_=>v= .int .u64 (b.label:Int)
 |11,v,_=>v= .int .i64 (b.label:Int)
 |12,v,_=>v= .pointer (some ⟨w.heap.size,4,none⟩)
 |13,v,_=>v= .int .u64 (b.name:Int)
 |14,v,_=>v= .int .u32 (b.name:Int)
 |15,v,_=>v= .pointer (some ⟨w.heap.size,5,none⟩)
 |16,v,_=>v= .int .u64 (b.next:Int)
 |17,v,_=>v= .int .u32 (b.next:Int)
 |18,v,_=>v= .pointer (some ⟨w.heap.size,6,none⟩)
 |19,v,_=>v= .int .u64 (b.prev:Int)
 |20,v,_=>v= .int .u32 (b.prev:Int)
 |21,v,_=>v= .pointer (some ⟨w.heap.size,7,none⟩)
 |22,v,_=>v= .int .u64 (b.FB:Int)
 |23,v,_=>v= .pointer (some ⟨w.heap.size,8,none⟩)
 |24,v,_=>v= .int .u64 (b.typ:Int)
 |25,v,_=>v= .int .u16 (b.typ:Int)
 |26,v,_=>v= .pointer (some ⟨w.heap.size,9,none⟩)
 |27,v,_=>v= .int .u64 (b.size:Int)
 |28,v,_=>v= .int .i64 (b.size:Int)
 |29,v,_=>v= .pointer (some ⟨w.heap.size,10,none⟩)
 |30,v,_=>v= .int .u64 (b.hash:Int)
 |31,v,_=>v= .int .u32 (b.hash:Int)
 |32,v,_=>v= .pointer (some ⟨w.heap.size,11,none⟩)
 |33,v,_=>v= .int .u64 (b.refs:Int)
 |34,v,_=>v= .int .u32 (b.refs:Int)
 |35,v,_=>v= .agg #[.int .i64 (b.tag:Int),.int .i64 (b.Ft:Int),.bool (decide (b.used=1)),.int .i64 (b.label:Int),.int .u32 (b.name:Int),.int .u32 (b.next:Int),.int .u32 (b.prev:Int),.int .u32 (b.refs:Int),.int .u64 (b.FB:Int),.int .u16 (b.typ:Int),.int .i64 (b.size:Int),.int .u32 (b.hash:Int)]
 |36,v,W=>NJ 165 (G0 b) w rb W
 |_,_,_=>True
theorem Bh(w:World)(b:Bk)(rb:Nat):∀(j:Nat) (v:Value) (W W':World),NR 305 165 (dO b) (G0 b) w rb W W'->bkF w b rb j v W->bkF w b rb j v W':=by
 intro j v W W' hb h;unfold bkF at h⊢;split at h<;>first|exact h|exact hb.2 h|trivial
theorem zj(b:Bk)(w:World)(h:qC b):Calls prog 274 #[.agg (dO b)] w λe w'=>e= .returned (.agg (G0 b))/\Below w.heap.size w w':=by
 obtain⟨h1,h2,h3,h4,h5,h6,h7,h8,h9,Ta,h11,h12⟩:=h;obtain⟨w1,FJ⟩:=Fp (w.alloc (.cells (dO b) 305));obtain⟨w0,Fx⟩:=Fp (w1.alloc (.cells #[.int .i64 0,.int .i64 0,.bool false,.int .i64 0,.int .u32 0,.int .u32 0,.int .u32 0,.int .u32 0,.int .u64 0,.int .u16 0,.int .i64 0,.int .u32 0] 165));have Gp:Whole w1 w.heap.size 305 (dO b):=by rw[FJ];exact Whole.new w _ _
 have FN:Below w.heap.size w w1:=by rw[FJ];exact(Below.refl _ w).alloc (Fm _) _
 have Gd:Whole w0 w1.heap.size 165 #[.int .i64 0,.int .i64 0,.bool false,.int .i64 0,.int .u32 0,.int .u32 0,.int .u32 0,.int .u32 0,.int .u64 0,.int .u16 0,.int .i64 0,.int .u32 0]:=by rw[Fx];exact Whole.new w1 _ _
 have FM:Below w1.heap.size w1 w0:=by rw[Fx];exact(Below.refl _ w1).alloc (Fm _) _
 have Gc:=(aa.below FM λ_=>False).whole Gp id;have FR:w.heap.size<w1.heap.size:=Gp.lt;obtain⟨rb,H9⟩:=Fp (w.heap.size+1);have F8:w1.heap.size=w.heap.size+1:=by rw[FJ];exact bI _ _
 have HI:Hid (NI 305 165 (dO b) w w1.heap.size w0.drew):=Fh ⟨ah (ah FN FM) ((Below.refl _ _).drew),Gc,_,_,_,_,_,_,_,_,_,_,_,_,Gd⟩;rw[F8,<-H9]at HI FR;clear Gp FN Gd FM Gc F8;go_in;go_upto_region 1 with fail;rw[<-FJ];rw[<-Fx];rw[<-H9];clear FJ Fx H9;refine dq (bkF w b rb) (NR 305 165 (dO b) (G0 b) w rb) rfl (n:=39) rfl (by kernel_rfl) (by kernel_rfl) (λw=>⟨id,id⟩) (λ_ _ _ h k=>⟨λx=>k.1 (h.1 x),λx=>k.2 (h.2 x)⟩) (Bh _ _ _) ?_ ?_
 ·skip
  refine(al ?_ (al ?_ (al ?_ (al ?_ (al ?_ (al ?_ (al ?_ (al ?_ (al ?_ (al ?_ (al ?_ (al ?_ (al ?_ (al ?_ (al ?_ (al ?_ (al ?_ (al ?_ (al ?_ (al ?_ (al ?_ (al ?_ (al ?_ (al ?_ (al ?_ (al ?_ (al ?_ (al ?_ (al ?_ (al ?_ (al ?_ (al ?_ (al ?_ (al ?_ (al ?_ (al ?_ (al ?_ j3)))))))))))))))))))))))))))))))))))))
  all_goals intro L9 a9 W9 hm hn hp hr K9 hK
  all_goals try(have e1:a9.tmps[1]? =some (.pointer (some ⟨w.heap.size,0,none⟩)):=(hm.IL hn (by rfl)).trans rfl;refine dg rfl ?_ (hK _ _ rfl (NR.below (Below.refl _ _)));go_simp;done)
  all_goals try(obtain⟨v,e,rfl⟩:=dN hm (hp _ ⟨.head _⟩ rfl) rfl rfl;obtain⟨y0,y1,y2,y3,y4,y5,y6,y7,y8,y9,Ic,Ie⟩:=aZ (hr.1 HI.o).2.1;have q8:((b.used:Int)==1)=decide (b.used=1):=(by rw[Bool.eq_iff_iff];simp;omega);first|(refine dg rfl ?_ (hK _ _ rfl (NR.below (Below.refl _ _)));go_simp;done)|(refine xR rfl (toI e W9 (by omega)) ?_ (hK _ _ rfl (NR.below (Below.refl _ _)));go_simp;done)|(refine xR rfl (toU e W9 (by omega)) ?_ (hK _ _ rfl (NR.below (Below.refl _ _)));go_simp;done)|(refine xR rfl (toH e W9 (by omega)) ?_ (hK _ _ rfl (NR.below (Below.refl _ _)));go_simp;done))
  ·
   obtain⟨v2,e5,rfl⟩:=dN hm (hp ⟨2,.data⟩ (by simp) rfl) rfl rfl;obtain⟨v5,e8,rfl⟩:=dN hm (hp ⟨5,.data⟩ (by simp) rfl) rfl rfl;obtain⟨v8,e11,rfl⟩:=dN hm (hp ⟨8,.data⟩ (by simp) rfl) rfl rfl;obtain⟨v11,e14,rfl⟩:=dN hm (hp ⟨11,.data⟩ (by simp) rfl) rfl rfl;obtain⟨v14,e17,rfl⟩:=dN hm (hp ⟨14,.data⟩ (by simp) rfl) rfl rfl;obtain⟨v17,e20,rfl⟩:=dN hm (hp ⟨17,.data⟩ (by simp) rfl) rfl rfl;obtain⟨v20,e23,rfl⟩:=dN hm (hp ⟨20,.data⟩ (by simp) rfl) rfl rfl;obtain⟨v22,e25,rfl⟩:=dN hm (hp ⟨22,.data⟩ (by simp) rfl) rfl rfl;obtain⟨v25,e28,rfl⟩:=dN hm (hp ⟨25,.data⟩ (by simp) rfl) rfl rfl;obtain⟨v28,e31,rfl⟩:=dN hm (hp ⟨28,.data⟩ (by simp) rfl) rfl rfl;obtain⟨v31,e34,rfl⟩:=dN hm (hp ⟨31,.data⟩ (by simp) rfl) rfl rfl;obtain⟨v34,e37,rfl⟩:=dN hm (hp ⟨34,.data⟩ (by simp) rfl) rfl rfl;exact dg rfl (by go_simp) (hK _ _ rfl (NR.below (Below.refl _ _)))
  ·
   have e2:a9.tmps[2]? =some (.pointer (some ⟨rb,0,none⟩)):=(hm.IL hn (by rfl)).trans rfl;obtain⟨v35,e38,rfl⟩:=dN hm (hp _ ⟨.head _⟩ rfl) rfl rfl;obtain⟨k1,k2,c0,c1,c2,c3,c4,c5,c6,c7,c8,c9,KN,Kr,k3⟩:=hr.1 HI.o;obtain⟨f0,f1,f2,f3,f4,f5,f6,f7,f8,f9,f10,f11⟩:=fI k3;obtain⟨z0,z1,z2,z3,z4,z5,z6,z7,z8,z9,XF,XG⟩:=aZ k3;obtain⟨w8,Ql,MB,JD,KA⟩:=El k1 k2 k3 (by omega) (by omega) (.int .i64 (b.tag:Int)) (.int .i64 (b.Ft:Int)) (.bool (decide (b.used=1))) (.int .i64 (b.label:Int)) (.int .u32 (b.name:Int)) (.int .u32 (b.next:Int)) (.int .u32 (b.prev:Int)) (.int .u32 (b.refs:Int)) (.int .u64 (b.FB:Int)) (.int .u16 (b.typ:Int)) (.int .i64 (b.size:Int)) (.int .u32 (b.hash:Int));refine Bf (w':=w8) rfl (by rw[Ql];go_simp) (hK undef _ ⟨MB,KA⟩ ⟨λ_=>⟨MB,JD,_,_,_,_,_,_,_,_,_,_,_,_,KA⟩,λ_=>⟨MB,KA⟩⟩)
 ·intro vs w3 hF hR;have h8:NJ 165 (G0 b) w rb w3:=hF 36 (by decide);have H8:=Fh h8;clear hF h8 hR HI;simp only [cw,Act.put,List.setIfInBounds_toArray,List.set_cons_zero,List.set_cons_succ,Nat.zero_add,Nat.reduceAdd];go_wp2_with fail;refine bodyPost_ret (results_cell_row rfl _ _ rb 165 _ (0,0) _ rfl H8.o.2 underlying165 rfl (by kernel_rfl)) rfl ?_;exact⟨rfl,H8.o.1⟩
end
section
variable{O:av}{μ:Mm}{w:World}
theorem jq(b:Bk)(i:Nat)(h:i<12)(W:World):(Instr.index 305 (.agg (dO b)) (.int .i64 (i:Int))).run prog W= .ok (.int .u64 ((aT b).getD i 0:Nat)) W:=by
 have hc:i=0\/i=1\/i=2\/i=3\/i=4\/i=5\/i=6\/i=7\/i=8\/i=9\/i=10\/i=11:=by omega
 rcases hc with rfl|rfl|rfl|rfl|rfl|rfl|rfl|rfl|rfl|rfl|rfl|rfl<;>simp[Instr.index,run_underlying underlying305,asIntOf,go_sem,part,dO,aT]
theorem jr{t f:Nat}(h:(FO t f).2=0):FO t f=(0,0):=by
 rcases Nat.lt_or_ge 2 t with ht|ht
 ·exact jZ ht
 ·rcases Nat.lt_or_ge f 12 with hf|hf
  ·have:∀t,t<3->∀f,f<12->(FO t f).2=0->FO t f=(0,0):=by decide
   exact this t (by omega) f hf h
  ·have:∀t,t<3->(Nw.getD t []).length<=12:=by decide
   rw[FO,List.getD_eq_getElem?_getD,List.getElem?_eq_none (by have:=this t (by omega);omega)];rfl
def kN(b:Bk)(f:Nat):Bool:= !Nat.beq ((aT b).getD f 0) 0&&Nat.beq (FO b.tag f).2 0
theorem Bi{b:Bk}(h:∀j,j<12->kN b j=false):aW b=false:=by
 unfold aW;rw[List.any_eq_false];intro j hj;have:=h j (List.mem_range.1 hj);unfold kN at this;rw[this];decide
theorem Bj{b:Bk}{j:Nat}(hj:j<12)(h:kN b j=true):aW b=true:=by
 unfold aW;rw[List.any_eq_true];exact⟨j,List.mem_range.2 hj,h⟩
theorem Bl{w W:World}{a0 a1 a2:Addr}{v0 v1 v2:Value}(h:W.cell? a0=some v0/\W.cell? a1=some v1/\W.cell? a2=some v2){W2:World}(k:Below W.heap.size W W2):W2.cell? a0=some v0/\W2.cell? a1=some v1/\W2.cell? a2=some v2:=
 ⟨(k.cell (ap h.1)).trans h.1,(k.cell (ap h.2.1)).trans h.2.1,(k.cell (ap h.2.2)).trans h.2.2⟩
theorem Em{w1 W W2:World}{a0 a1 a2:Addr}{v0 v1 v2:Value}(h:Below w1.heap.size w1 W/\W.cell? a0=some v0/\W.cell? a1=some v1/\W.cell? a2=some v2)(k:Below W.heap.size W W2):Below w1.heap.size w1 W2/\W2.cell? a0=some v0/\W2.cell? a1=some v1/\W2.cell? a2=some v2:=
 ⟨ah h.1 k,Bl (w:=W) h.2 k⟩
theorem zk(b:Bk)(w:World)(hb:qC b)(hu:b.used<=1)(he:eB w):Calls prog 325 #[.agg (G0 b)] w λe w'=>e= .returned (.bool (aW b))/\Below w.heap.size w w':=by
 obtain⟨w1,FJ⟩:=Fp (w.alloc (.cells (G0 b) 165));have Gp:Whole w1 w.heap.size 165 (G0 b):=by rw[FJ];exact Whole.new w _ _
 have FN:Below w.heap.size w w1:=by rw[FJ];exact(Below.refl _ w).alloc (Fm _) _
 have HN:=Fh (nN b w1 hb hu);have HIX:=Fh (λi (h:i<12) W=>jq b i h W);have HE:=Fh he;have GH:=Fh FN;have x0:w1.cell? ⟨w.heap.size,0,none⟩=some (.int .i64 (b.tag:Int)):=Gp.cell 0;have J5:=Fh Gp;obtain⟨nv,hnv⟩:=Fp (dO b);rw[<-hnv]at HN HIX;obtain⟨y0,y1,y2,y3,y4,y5,y6,y7,y8,y9,Ic,Ie⟩:=aZ Gp;unfold G0 at FJ HN⊢;clear Gp FN hnv J5;go_in;go_upto_region 1 with fail;rw[<-FJ];clear FJ;go_wp2_with fail;refine HN.o.mono ?_;rintro e w2⟨rfl,FF⟩;have Gx:=Fh (ah GH.o FF);have x1:w2.cell? ⟨w.heap.size,0,none⟩=some (.int .i64 (b.tag:Int)):=(FF.cell (ap x0)).trans x0;have e2:=HE.o.below Gx.o;have HX:Hid (w2.cell? ⟨w.heap.size,0,none⟩=some (.int .i64 (b.tag:Int))/\w2.cell? ⟨2,0,none⟩=some (.int .i64 0)/\w2.cell? ⟨2,1,none⟩=some (.int .i64 0)):=Fh ⟨x1,e2.hn 0 (by omega),e2.hn 1 (by omega)⟩;clear FF x0 x1 e2 y0 y1 y2 y3 y4 y5 y6 y7 y8 y9 Ic Ie;go_wp2_with fail;clear HN
 go_loopw [2,3,4,7] (λs2 _ _ s7 wr=>∃k:Nat,k<=12/\s2= .bool false/\s7= .int .i64 k/\Hid (Below w.heap.size w wr/\wr.cell? ⟨w.heap.size,0,none⟩=some (.int .i64 (b.tag:Int))/\wr.cell? ⟨2,0,none⟩=some (.int .i64 0)/\wr.cell? ⟨2,1,none⟩=some (.int .i64 0))/\Hid (∀j,j<k->kN b j=false)) (λ_ _ _ s7 _=>match s7 with| .int _ m=>12-m.toNat|_=>0)
 case atStart=>exact⟨0,by omega,rfl,rfl,Fh ⟨Gx.o,HX.o⟩,Fh (λj h=>by omega)⟩
 case round=>
  obtain⟨k,hk,rfl,rfl,HI,HJ⟩:=hrel;by_cases FR:k<12
  ·have QE:=HIX.o k FR;obtain⟨n,hn⟩:=Fp ((aT b).getD k 0);rw[<-hn]at QE;have HNK:=Fh hn;clear hn;obtain⟨q0,q1,q2,q3⟩:=HI.o;by_cases h0:n=0
   ·have d1:((n:Int) !=0)=false:=by rw[h0];rfl
    have HF:Hid (kN b k=false):=Fh (by unfold kN;rw[<-HNK.o,h0];rfl);clear h0;go_wp2_with fail;go_quiet (fail);go_wp2;go_roundw
    case rel=>exact⟨k+1,by omega,rfl,by go_num,Fh ⟨ah q0 (dz _ _),Bl (w:=w) ⟨q1,q2,q3⟩ (dz _ _)⟩,Fh (λj hj=>by rcases Nat.lt_succ_iff_lt_or_eq.1 hj with h|rfl;exact HJ.o j h;exact HF.o)⟩
    case measure=>simp;omega
   ·have d1:((n:Int) !=0)=true:=by rw[bne_iff_ne];omega
    have HP:=Fh (λW (h:Below wr.drew.heap.size wr.drew W)=>dx b.tag k W (HE.o.below (ah q0.drew h)) FR);have Gu:Below wr.drew.heap.size wr.drew wr.drew/\wr.drew.cell? ⟨w.heap.size,0,none⟩=some (.int .i64 (b.tag:Int))/\wr.drew.cell? ⟨2,0,none⟩=some (.int .i64 0)/\wr.drew.cell? ⟨2,1,none⟩=some (.int .i64 0):=⟨Below.refl _ _,q1,q2,q3⟩;by_cases hz:(FO b.tag k).2=0
    ·have HF:Hid (kN b k=true):=Fh (by unfold kN;rw[<-HNK.o,hz,Tr.I0 h0];rfl);rw[jr hz]at HP;clear h0 hz;go_wp2_with fail
     go_region_held3 (λw'=>Below wr.drew.heap.size wr.drew w'/\w'.cell? ⟨w.heap.size,0,none⟩=some (.int .i64 (b.tag:Int))/\w'.cell? ⟨2,0,none⟩=some (.int .i64 0)/\w'.cell? ⟨2,1,none⟩=some (.int .i64 0))
      (first|exact Gu|assumption|exact Em (by assumption) (by assumption))
      (first|((go_at_call 265;with_reducible refine(HP.o _ (And.left (by assumption))).mono ?_);rintro e w5 ⟨rfl,Io⟩))
     go_wp2;go_ret;exact⟨aq (Bj FR HF.o).symm,ah q0.drew (And.left (by assumption))⟩
    ·have HF:Hid (kN b k=false):=Fh (by unfold kN;rw[Tr.I0 hz];simp);obtain⟨p1,LS⟩:=Fp ((FO b.tag k).1);obtain⟨p2,Jn⟩:=Fp ((FO b.tag k).2);rw[<-LS,<-Jn]at HP;rw[<-Jn]at hz;have G7:((p2:Int)==0)=false:=by rw[Fo];omega
     clear h0 LS Jn;go_wp2_with fail
     go_region_held3 (λw'=>Below wr.drew.heap.size wr.drew w'/\w'.cell? ⟨w.heap.size,0,none⟩=some (.int .i64 (b.tag:Int))/\w'.cell? ⟨2,0,none⟩=some (.int .i64 0)/\w'.cell? ⟨2,1,none⟩=some (.int .i64 0))
      (first|exact Gu|assumption|exact Em (by assumption) (by assumption))
      (first|((go_at_call 265;with_reducible refine(HP.o _ (And.left (by assumption))).mono ?_);rintro e w5 ⟨rfl,Io⟩))
     go_wp2;go_roundw
     case rel=>exact⟨k+1,by omega,rfl,by go_num,Fh ⟨ah q0.drew (And.left (by assumption)),And.right (by assumption)⟩,Fh (λj hj=>by rcases Nat.lt_succ_iff_lt_or_eq.1 hj with h|rfl;exact HJ.o j h;exact HF.o)⟩
     case measure=>simp;omega
  ·have KZ:k=12:=by omega
   subst KZ;have HF:=Fh (Bi HJ.o);have q0:=HI.o.1;go_wp2;go_ret;exact⟨aq HF.o.symm,q0⟩
end
theorem TW:(prog.info? 197).map (λi=>(i.zero,i.size,i.bytes))=some (some (.agg #[.int .i64 0,.int .i64 0,.int .i64 0]),3,24):=by kernel_rfl
def Dt(r:Rn):List Value:= [.int .i64 (r.a:Int),.int .i64 (r.n:Int),.int .i64 (r.k:Int)]
def gW(l:List Rn):List Value:=l.flatMap Dt
theorem oN(l:List Rn)(r:Rn):gW (l++ [r])=gW l++Dt r:=by simp[gW]
theorem re(l:List Rn)(i:Nat)(h:i<l.length):(gW l)[i*3]? =some (.int .i64 (l[i].a:Int))/\(gW l)[i*3+1]? =some (.int .i64 (l[i].n:Int))/\(gW l)[i*3+2]? =some (.int .i64 (l[i].k:Int)):=by
 induction l generalizing i with
 |nil=>simp at h
 |cons r l ih=>
  have e:gW (r::l)=Dt r++gW l:=rfl;cases i with
  |zero=>exact⟨rfl,rfl,rfl⟩
  |succ i=>
   have h1:=ih i (by simpa using h);have e3:(Dt r).length=3:=rfl;rw[e,List.getElem?_append_right (by rw[e3];omega),List.getElem?_append_right (by rw[e3];omega),List.getElem?_append_right (by rw[e3];omega),e3,show(i+1)*3-3=i*3 by omega,show(i+1)*3+1-3=i*3+1 by omega,show(i+1)*3+2-3=i*3+2 by omega];simpa using h1
def dr(B:Nat)(w:World)(v:Value)(l:List Rn):Prop:=w.ownsRow B 197 3 v l.length (gW l)
theorem dr.nil(B:Nat)(w:World):dr B w (.slice none 0 0) []:=⟨rfl,.inl ⟨rfl,rfl⟩⟩
theorem js(w:World)(x y z:Value)(t:TypeId):∀j u,[x,y,z][j]? =some u->(w.alloc (.cells #[x,y,z] t)).cell? ((⟨w.heap.size,0,none⟩:Addr).add j)=some u:=by
 intro j u hj;have h:=Whole.new w t #[x,y,z];rw[Addr.add_lit,h.cell,Nat.zero_add];simpa using hj
theorem aw{w:World}{base:Nat}{e:TypeId}{size:Nat}{v:Value}{n:Nat}{xs:List Value}(h:w.ownsRow base e size v n xs):∃A c,v= .slice A n c:=by
 rcases h.2 with⟨rfl,h0⟩|⟨g,cap,Kb,rfl,_⟩
 ·subst h0;exact⟨none,0,rfl⟩
 ·exact⟨_,cap,rfl⟩
theorem bC{w:World}{base:Nat}{e:TypeId}{size:Nat}{A:Option Addr}{c n:Nat}{xs:List Value}(h:w.ownsRow base e size (.slice A n c) n xs)(hn:1<=n)(hs:1<=size):∃g,A=some ⟨g,0,none⟩/\base<=g/\n<=c/\∀i v,xs[i]? =some v->w.cell? ⟨g,i,none⟩=some v:=by
 rcases h with⟨hl,⟨e0,_⟩|⟨g,cap,Kb,e1,h2,h3,h4,h5,h6,h7⟩⟩
 ·injection e0 with e1 e2 e3;omega
 ·injection e1 with e1 e2 e3;subst e1 e3;refine⟨g,rfl,h2,h4,λi v hv=> ?_⟩;have hi:=(List.getElem?_eq_some_iff.1 hv).1;rw[<-h7,List.getElem?_take_of_lt (by omega)]at hv;simp only [World.cell?,h3];simpa using hv
theorem aA{w:World}{base:Nat}{e t:TypeId}{size:Nat}{v:Value}{n:Nat}{xs:List Value}{g:Nat}{cs:Array Value}(h:w.ownsRow base e size v n xs)(hw:Whole w g t cs)(ht:t≠e):v.ownBlock≠some g:=by
 intro hb;rcases h.2 with⟨rfl,_⟩|⟨g',cap,Kb,rfl,_,h3,_⟩
 ·cases hb
 ·have e1:g'=g:=by simpa[Value.ownBlock]using hb
  subst e1;unfold Whole at hw;rw[hw]at h3;injection h3 with h4;injection h4 with h5 h6;exact ht h6
theorem Ew(lb B e k:Nat)(v:Value)(l:List Rn)(w:World)(hb:Whole w lb 194 #[v])(hr:dr B w v l)(hB:B<=w.heap.size)(he:e<8589934592)(hk:k<256)(hl:l.length<100000)(hn:cC l<8589934592):
  Calls prog 229 #[.int .i64 (e:Int),.int .i64 (k:Int),.pointer (some ⟨lb,0,none⟩)] w λx w'=>x= .returned (.tuple #[])/\∃v',Whole w' lb 194 #[v']/\dr B w' v' (cD l e k)/\aa (λj=>j=lb\/v.ownBlock=some j) w w'/\(v'.ownBlock=v.ownBlock\/∃j,w.heap.size<=j/\v'.ownBlock=some j):=by
 obtain⟨i0,hi,G9,G8,G7⟩:=info_parts TW;obtain⟨A,c,rfl⟩:=aw hr;have c0:w.cell? ⟨lb,0,none⟩=some (.slice A l.length c):=hb.cell 0;have f0:=hb.frozen 0;have HB:=Fh hb;have HR:=Fh hr;rcases Nat.eq_zero_or_pos l.length with h0|Pm
 ·have LU:cC l=0:=by
   rw[List.eq_nil_of_length_eq_zero h0];rfl
  have Ke:=Fh LU;have K8:=Fh h0;rw[h0]at c0;have KO:Hid (w.ownsRow B 197 3 (.slice A 0 c) 0 (gW l)):=Fh (by rw[dr,h0]at hr;exact hr);have Gx:Hid (Whole w lb 194 #[.slice A 0 c]):=Fh (by rw[<-h0];exact hb);have MC:Hid ((Value.slice A 0 c).ownBlock≠some lb):=Fh (by rw[<-h0];exact aA hr hb (by decide));clear hb hr LU h0 hn hl;go_in;have HOB:Hid ((Value.slice A 0 c).ownBlock=(Value.slice A l.length c).ownBlock):=Fh (by cases A<;>rfl);by_cases FR:0<e
  ·have YJ:Hid ((e:Int)=((e-0:Nat):Int)):=Fh (by omega);go_wp2_with (at_builtin;refine wpList_append_own_at _ rfl _ _ 194 rfl B 197 i0 (.agg #[.int .i64 0,.int .i64 0,.int .i64 0]) 3 24 underlying194 hi G9 G8 G7 rfl (by decide) (.slice A 0 c) 0 (gW l) rfl (KO.o.alloc _) ⟨w.heap.size,0,none⟩ 1 1 [.int .i64 0,.int .i64 (e:Int),.int .i64 (k:Int)] rfl rfl (js _ _ _ _ _) (λx hx=>by simp at hx;rcases hx with rfl|rfl|rfl<;>rfl) (by unfold maxLen;omega) (by omega) (by simp;omega) ?_;intro v' w3 F3 FZ _ QJ;have Tb:Whole w3 lb 194 #[.slice A 0 c]:=(aa.grown FZ).whole (((aa.refl (λ_=>False) w).alloc (.cells #[.int .i64 0,.int .i64 (e:Int),.int .i64 (k:Int)] 197)).whole Gx.o (λh=>h)) MC.o;have hc3:w3.cell? ⟨lb,0,none⟩=some (.slice A 0 c):=Tb.cell 0;have XH:=Tb.frozen 0;have HN3:=Fh (aA F3 Tb (by decide));obtain⟨A3,YK,GM⟩:=aw F3;have HV3:=Fh GM;have Pp:=Fh Tb;have Vy:=Fh F3;have FT:=Fh FZ;rw[GM];clear GM Tb F3 FZ);go_end0;refine⟨rfl,v',?_,?_,?_,?_⟩
   ·rw[HV3.o];exact Pp.o.put 0 _
   ·rw[dr,cD,if_pos (by rw[Ke.o];exact FR),oN,List.length_append,Ke.o];have h:=aj Vy.o ((aa.refl (λj=>j=lb) w3).setCell (p:=⟨lb,0,none⟩) (.inl rfl) (.slice A3 (0+1) YK)) (λj hj e=>HN3.o (by rw[hj,e]));rw[YJ.o]at h;rw[K8.o];exact h
   ·exact(((aa.refl (λj=>j=lb\/(Value.slice A l.length c).ownBlock=some j) w).alloc _).trans ((aa.grown FT.o).mono (S':=λj=>j=lb\/(Value.slice A l.length c).ownBlock=some j) λk _ h=>Or.inr (by rw[<-HOB.o];exact h))).setCell (p:=⟨lb,0,none⟩) (.inl (.inl rfl)) _
   ·rcases QJ with h|h
    ·exact .inl (by rw[<-HOB.o];exact h)
    ·exact .inr ⟨_,by simp,h⟩
  ·go_wp2;go_end0;refine⟨rfl,_,HB.o,?_,aa.refl _ _,.inl rfl⟩;rw[dr,cD,if_neg (by rw[Ke.o];exact FR)];exact HR.o
 ·obtain⟨g,rfl,_,Ot,hcell⟩:=bC hr Pm (by decide);obtain⟨p,hp⟩:∃p,l.length=p+1:=⟨l.length-1,by omega⟩;obtain⟨g0,g1,g2⟩:=re l p (by omega);have d0:=hcell _ _ g0;have d1:=hcell _ _ g1;obtain⟨x,hx⟩:=Fp (l[p].a);obtain⟨y,hy⟩:=Fp (l[p].n);rw[<-hx]at d0;rw[<-hy]at d1;have LU:cC l=x+y:=by
   rw[cC,List.getLast?_eq_getElem?,hp,Nat.add_sub_cancel,Fl (by omega),hx,hy]
  have Ke:=Fh LU;have K8:=Fh hp;rw[LU]at hn;have KO:Hid (w.ownsRow B 197 3 (.slice (some ⟨g,0,none⟩) (p+1) c) (p+1) (gW l)):=Fh (by rw[<-hp];exact hr);have Gx:Hid (Whole w lb 194 #[.slice (some ⟨g,0,none⟩) (p+1) c]):=Fh (by rw[<-hp];exact hb);have MC:Hid ((Value.slice (some ⟨g,0,none⟩) (p+1) c).ownBlock≠some lb):=Fh (by rw[<-hp];exact aA hr hb (by decide));rw[hp]at c0 Ot hl;clear hcell g0 g1 g2 hb hr LU hx hy Pm hp;go_in;go_wp2_with fail;go_quiet (fail);clear d0 d1;obtain⟨z,hz⟩:∃z:Nat,z=x+y:=⟨_,rfl⟩;rw[show(x:Int)+(y:Int)=(z:Int)by omega];have Ke:Hid (cC l=z):=Fh (by rw[hz];exact Ke.o);rw[<-hz]at hn;clear hz;by_cases FR:z<e
  ·have YJ:Hid (((e:Int)-(z:Int))=((e-z:Nat):Int)):=Fh (by omega);go_wp2_with (at_builtin;refine wpList_append_own_at _ rfl _ _ 194 rfl B 197 i0 (.agg #[.int .i64 0,.int .i64 0,.int .i64 0]) 3 24 underlying194 hi G9 G8 G7 rfl (by decide) (.slice (some ⟨g,0,none⟩) (p+1) c) (p+1) (gW l) rfl (KO.o.alloc _) ⟨w.heap.size,0,none⟩ 1 1 [.int .i64 (z:Int),.int .i64 ((e:Int)-(z:Int)),.int .i64 (k:Int)] rfl rfl (js _ _ _ _ _) (λx hx=>by simp at hx;rcases hx with rfl|rfl|rfl<;>rfl) (by unfold maxLen;omega) (by omega) (by simp;omega) ?_;intro v' w3 F3 FZ _ QJ;have Tb:Whole w3 lb 194 #[.slice (some ⟨g,0,none⟩) (p+1) c]:=(aa.grown FZ).whole (((aa.refl (λ_=>False) w).alloc (.cells #[.int .i64 (z:Int),.int .i64 ((e:Int)-(z:Int)),.int .i64 (k:Int)] 197)).whole Gx.o (λh=>h)) MC.o;have hc3:w3.cell? ⟨lb,0,none⟩=some (.slice (some ⟨g,0,none⟩) (p+1) c):=Tb.cell 0;have XH:=Tb.frozen 0;have HN3:=Fh (aA F3 Tb (by decide));obtain⟨A3,YK,GM⟩:=aw F3;have HV3:=Fh GM;have Pp:=Fh Tb;have Vy:=Fh F3;have FT:=Fh FZ;rw[GM];clear GM Tb F3 FZ);go_end0;refine⟨rfl,v',?_,?_,?_,?_⟩
   ·rw[HV3.o];exact Pp.o.put 0 _
   ·rw[dr,cD,if_pos (by rw[Ke.o];exact FR),oN,List.length_append,Ke.o];have h:=aj Vy.o ((aa.refl (λj=>j=lb) w3).setCell (p:=⟨lb,0,none⟩) (.inl rfl) (.slice A3 (p+1+1) YK)) (λj hj e=>HN3.o (by rw[hj,e]));rw[YJ.o]at h;rw[K8.o];exact h
   ·exact((((aa.refl (λj=>j=lb\/(Value.slice (some ⟨g,0,none⟩) l.length c).ownBlock=some j) w).drewN nq).alloc _).trans ((aa.grown FT.o).mono (S':=λj=>j=lb\/(Value.slice (some ⟨g,0,none⟩) l.length c).ownBlock=some j) λk _ h=>Or.inr h)).setCell (p:=⟨lb,0,none⟩) (.inl (.inl rfl)) _
   ·rcases QJ with h|h
    ·exact .inl h
    ·exact .inr ⟨_,by simp,h⟩
  ·go_wp2;go_end0;refine⟨rfl,_,HB.o,?_,(aa.refl _ _).drewN _,.inl rfl⟩;rw[dr,cD,if_neg (by rw[Ke.o];exact FR)];exact HR.o
def ri(lb:Nat)(l:List Rn)(w:World):Prop:=∃v,Whole w lb 194 #[v]/\dr lb w v l
theorem ri.below{lb:Nat}{l:List Rn}{w w':World}(h:ri lb l w)(hb:Below w.heap.size w w'):ri lb l w':=by
 obtain⟨v,h1,h2⟩:=h;exact⟨v,(hb.block _ h1.lt).trans h1,aj h2 (aa.below hb λ_=>False) λ_ _ h=>h⟩
theorem j4(lb e k:Nat)(l:List Rn)(w:World)(h:ri lb l w)(he:e<8589934592)(hk:k<256)(hl:l.length<100000)(hn:cC l<8589934592):
  Calls prog 229 #[.int .i64 (e:Int),.int .i64 (k:Int),.pointer (some ⟨lb,0,none⟩)] w λx w'=>x= .returned (.tuple #[])/\ri lb (cD l e k) w'/\aa (λj=>lb<=j) w w':=by
 obtain⟨v,h1,h2⟩:=h;refine(Ew lb lb e k v l w h1 h2 (Nat.le_of_lt h1.lt) he hk hl hn).mono ?_;rintro x w'⟨rfl,v',g1,g2,g3,_⟩;refine⟨rfl,⟨v',g1,g2⟩,g3.mono λj hj hh=> ?_⟩;rcases hh with rfl|hh
 ·exact Fm _
 ·exact(aF h2 hh).1
theorem wF(l:List Rn)(r:Rn):cC (l++ [r])=r.a+r.n:=by simp[cC]
theorem fJ(l:List Rn)(e k:Nat):cC (cD l e k)=max (cC l) e:=by
 unfold cD;split
 ·rw[wF];show cC l+(e-cC l)=_;omega
 ·omega
theorem gq(l:List Rn)(e k:Nat):(cD l e k).length<=l.length+1:=by
 unfold cD;split<;>simp
theorem xS{B:Nat}{w W W2:World}{p q:Addr}{u v:Value}(h:aa (λj=>B<=j) w W/\W.cell? p=some u/\W.cell? q=some v)(k:Below W.heap.size W W2):aa (λj=>B<=j) w W2/\W2.cell? p=some u/\W2.cell? q=some v:=
 ⟨h.1.trans (aa.below k _),(k.cell (ap h.2.1)).trans h.2.1,(k.cell (ap h.2.2)).trans h.2.2⟩
theorem rj{B b:Nat}{w W W2:World}{i j:Nat}{u v:Value}(hb:b<B)(h:aa (λj=>B<=j) w W/\W.cell? ⟨b,i,none⟩=some u/\W.cell? ⟨b,j,none⟩=some v)(k:aa (λj=>B<=j) W W2):aa (λj=>B<=j) w W2/\W2.cell? ⟨b,i,none⟩=some u/\W2.cell? ⟨b,j,none⟩=some v:=
 ⟨h.1.trans k,k.cell h.2.1 (by simp;omega),k.cell h.2.2 (by simp;omega)⟩
theorem Bm(s n:Nat)(w:World)(hs:Sz w)(ok:LP s n=true):Calls prog 127 #[.agg #[.int .i64 (s:Int),.int .i64 (n:Int)]] w λe w'=>∃v,e= .returned v/\dr w.heap.size w' v (kH s n)/\Below w.heap.size w w':=by
 obtain⟨w0,Fx,FM,x0,x1⟩:=dp s n w;have hk:=bB.1 ok;have HR:=Fh (dU s n w0 (hs.below FM) (by omega) (by omega));have GW:=Fh FM;have HS:=Fh hs;have Vz:=Fh ok;have hn:n<=8192:=hk.2.2.2.2;have Si:s<=64:=hk.2.1;have F8:=bu ok;obtain⟨z,hz⟩:=Fp (az s);have G7:z<=2000:=by rw[hz,az];omega
 have HZ:=Fh hz;have IX:=λW=>mF s n W (by omega);rw[<-hz]at IX;have XC:=Fh IX;have hbz:aN s n<=200000:=by omega
 have hsz2:br s n<=200000:=F8.1;have HB:=Fh hbz;have IA:=Fh hsz2;rw[ok]at HR;clear FM hs IX ok hk hz F8 hbz hsz2;go_in;go_upto_region 1 with fail;rw[<-Fx];clear Fx;go_wp2_with fail;refine HR.o.mono ?_;rintro e w1⟨rfl,FN⟩;have y0:=aK x0 FN;have y1:=aK x1 FN;have GH:=Fh (ah GW.o FN);obtain⟨lb,Mg⟩:=Fp w1.heap.size;have FR:w.heap.size<lb:=by rw[Mg];exact ap y0
 obtain⟨w2,FL⟩:=Fp (w1.alloc (.cells #[.slice none 0 0] 194));have FF:Below w1.heap.size w1 w2:=by rw[FL];exact(Below.refl _ _).alloc (Fm _) _
 have Iu:ri lb [] w2:=by
  refine⟨.slice none 0 0,?_,dr.nil _ _⟩;rw[FL,Mg];exact Whole.new _ _ _
 have TX:=Fh (j4 lb 8 1 [] w2 Iu (by omega) (by omega) (by simp) (by simp[cC]));have Gx:=Fh (ah GH.o FF);have z0:=aK y0 FF;have z1:=aK y1 FF;have HZ0:=Fh z0;have VA:=Fh z1;have HLB:=Fh Mg;have QK:=Fh FR;rw[FL]at TX;have VB:=Fh FL;rw[Mg]at TX;clear x0 x1 FN y0 y1 FF Iu z0 z1 Mg FR FL;go_wp2_with fail;refine TX.o.mono ?_;rintro e w3⟨rfl,O2,TY⟩;rw[<-VB.o,<-HLB.o]at TY;rw[<-HLB.o]at O2;rw[<-HLB.o];obtain⟨l3,V2⟩:=Fp (cD [] 8 1);have NX3:Hid (cC l3=8/\l3.length<=1):=Fh (by rw[V2];exact⟨rfl,by decide⟩);rw[<-V2]at O2;have XI:=Fh (j4 lb 128 2 l3 w3 O2 (by omega) (by omega) (by have:=NX3.o;omega) (by have:=NX3.o;omega));have HK3:=Fh (rj (b:=w.heap.size) QK.o ⟨aa.refl _ _,HZ0.o,VA.o⟩ TY);have E3:=Fh V2;clear O2 TY V2 TX;go_wp2_with fail;refine XI.o.mono ?_;rintro e w4⟨rfl,Tc,MD⟩;obtain⟨l4,V3⟩:=Fp (cD l3 128 2);have NX4:Hid (cC l4=128/\l4.length<=2):=Fh (by
  have h1:=gq l3 128 2;have h2:=fJ l3 128 2;have h3:=NX3.o;rw[V3];omega)
 rw[<-V3]at Tc;have XJ:=rj (b:=w.heap.size) QK.o HK3.o MD;have QL:=Fh XJ;have y0:=XJ.2.1;have y1:=XJ.2.2;have E4:=Fh V3;have HA4:=Fh Tc;clear Tc MD V3 XI XJ;go_wp2_with fail;refine(XC.o _).mono ?_;rintro e w5⟨rfl,Io⟩;have hl5:=HA4.o.below Io;have hh5:=xS QL.o Io;have NT:=Fh hh5;have HL6:=Fh (j4 lb z 3 l4 w5 hl5 (by omega) (by omega) (by have:=NX4.o;omega) (by have:=NX4.o;omega));clear y0 y1 Io hl5 hh5;go_wp2_with fail;refine HL6.o.mono ?_;rintro e w6⟨rfl,hl6,hk6⟩;obtain⟨l6,V4⟩:=Fp (cD l4 z 3);have NX6:Hid (cC l6<=2000/\l6.length<=3):=Fh (by
  have h1:=gq l4 z 3;have h2:=fJ l4 z 3;have h3:=NX4.o;rw[V4];omega)
 rw[<-V4]at hl6;have hh6:=rj (b:=w.heap.size) QK.o NT.o hk6;have HK6:=Fh hh6;have y0:=hh6.2.1;have y1:=hh6.2.2;have E6:=Fh V4;have HA6:=Fh hl6;have TZ:=λW (h:Below w6.drew.heap.size w6.drew W)=>j4 lb (z+n*4) 4 l6 W (hl6.below (ah (Below.refl _ w6).drew h)) (by omega) (by omega) (by have:=NX6.o;omega) (by have:=NX6.o;omega);rw[show((z+n*4:Nat):Int)=(z:Int)+(n:Int)*4 by omega,show((4:Nat):Int)=4 from rfl]at TZ;have HL7:=Fh TZ;clear hl6 hk6 V4 HL6 hh6 TZ;have FJ:IntKind.i64.wrap ((n:Int)*4)=(n:Int)*4:=IntWalk.i64_in _ (by omega);have FL:IntKind.i64.wrap ((z:Int)+(n:Int)*4)=(z:Int)+(n:Int)*4:=IntWalk.i64_in _ (by omega);go_wp2_with fail;have Gu:aa (λj=>lb<=j) w6 w6.drew/\w6.drew.cell? ⟨w.heap.size,0,none⟩=some (.int .i64 (s:Int))/\w6.drew.cell? ⟨w.heap.size,1,none⟩=some (.int .i64 (n:Int)):=⟨(aa.refl _ _).drew,y0,y1⟩;have FR:=QK.o
 go_region_held3 (λw'=>aa (λj=>lb<=j) w6 w'/\w'.cell? ⟨w.heap.size,0,none⟩=some (.int .i64 (s:Int))/\w'.cell? ⟨w.heap.size,1,none⟩=some (.int .i64 (n:Int)))
  (first|exact Gu|assumption|exact xS (by assumption) (by assumption)|exact rj FR (by assumption) (by assumption))
  (first
   |((go_at_call 139;with_reducible refine(XC.o _).mono ?_);rintro e w7 ⟨rfl,hb7⟩)
   |((go_at_call 229;with_reducible refine(HL7.o _ (by assumption)).mono ?_);rintro e w8 ⟨rfl,V5,KM⟩))
 obtain⟨l8,V6⟩:=Fp (cD l6 (z+n*4) 4);have NX8:Hid (cC l8<=200000/\l8.length<=4):=Fh (by
  have h1:=gq l6 (z+n*4) 4;have h2:=fJ l6 (z+n*4) 4;have h3:=NX6.o;rw[V6];omega)
 rw[<-V6]at V5;have V7:aa (λj=>lb<=j) w6 w8/\w8.cell? ⟨w.heap.size,0,none⟩=some (.int .i64 (s:Int))/\w8.cell? ⟨w.heap.size,1,none⟩=some (.int .i64 (n:Int)):=by assumption
 have T0:aa (λj=>lb<=j) w2 w8/\w8.cell? ⟨w.heap.size,0,none⟩=some (.int .i64 (s:Int))/\w8.cell? ⟨w.heap.size,1,none⟩=some (.int .i64 (n:Int)):=⟨HK6.o.1.trans V7.1,V7.2⟩;have MB:∀ {W:World},aa (λj=>lb<=j) w2 W->Below w.heap.size w W:=fun {W} h=>Gx.o.trans (h.F1 Gx.o.size λk hk hj=>by have:=QK.o;omega);have HBEL:Hid (∀W:World,aa (λj=>lb<=j) w2 W->Below w.heap.size w W):=Fh (λW h=>MB h);have Qm:=Fh T0;have v0:=T0.2.1;have v1:=T0.2.2;have E8:=Fh V6;have HA8:=Fh V5;have Vv:=Fh (lK s n w8 (HS.o.below (MB T0.1)) Vz.o);clear V5 KM V6 V7 T0 MB Gu hb7 FR FJ FL y0 y1 HL7;go_wp2_with fail;refine Vv.o.mono ?_;rintro e w9⟨rfl,VC⟩;obtain⟨bc,V8⟩:=Fp (aN s n);have hbc2:bc<=200000:=by rw[V8];exact HB.o
 rw[<-V8];have hl9:=HA8.o.below VC;have hh9:=xS Qm.o VC;have HK9:=Fh hh9;have HL10:=Fh (j4 lb bc 8 l8 w9 hl9 (by omega) (by omega) (by have:=NX8.o;omega) (by have:=NX8.o;omega));have EBC:=Fh V8;clear v0 v1 VC hl9 hh9 V8 Vv;go_wp2_with fail;refine HL10.o.mono ?_;rintro e LV⟨rfl,YL,Sh⟩;obtain⟨l10,RE⟩:=Fp (cD l8 bc 8);have NX10:Hid (cC l10<=200000/\l10.length<=5):=Fh (by
  have h1:=gq l8 bc 8;have h2:=fJ l8 bc 8;have h3:=NX8.o;rw[RE];omega)
 rw[<-RE]at YL;have T3:=rj (b:=w.heap.size) QK.o HK9.o Sh;have T4:=Fh T3;have v0:=T3.2.1;have v1:=T3.2.2;have E10:=Fh RE;have HA10:=Fh YL;have LW:=Fh (jb s n LV (HS.o.below (HBEL.o _ T3.1)) Vz.o);clear YL Sh RE T3 HL10;go_wp2_with fail;refine LW.o.mono ?_;rintro e NU⟨rfl,Sj⟩;obtain⟨sc,hsc⟩:=Fp (br s n);have hsc2:sc<=200000:=by rw[hsc];exact IA.o
 rw[<-hsc];have hl11:=HA10.o.below Sj;have hh11:=xS T4.o Sj;have HK11:=Fh hh11;have HL12:=Fh (j4 lb sc 7 l10 NU hl11 (by omega) (by omega) (by have:=NX10.o;omega) (by have:=NX10.o;omega));have ESC:=Fh hsc;clear v0 v1 Sj hl11 hh11 hsc LW;go_wp2_with fail;refine HL12.o.mono ?_;rintro e T5⟨rfl,⟨v,F6,F0⟩,hk12⟩;have hh12:=rj (b:=w.heap.size) QK.o HK11.o hk12;have c0:T5.cell? ⟨lb,0,none⟩=some v:=F6.cell 0;have Qn:=Fh F0;have HBF:=Fh (HBEL.o _ hh12.1);obtain⟨A,c,hv⟩:=aw F0;have HVE:=Fh hv;rw[hv]at c0;have XK:Hid (w.heap.size<=lb):=Fh (Nat.le_of_lt QK.o);clear F6 F0 hk12 hh12 HL12 hv;go_wp2;go_ret;have h:=Qn.o;rw[HVE.o]at h;have h2:=aS h XK.o;have e:kH s n=cD l10 sc 7:=by
  rw[E10.o,E8.o,E6.o,E4.o,E3.o,EBC.o,ESC.o,HZ.o];rfl
 rw[e];exact⟨_,rfl,h2,HBF.o⟩
theorem ua(w:World)(N:Nat):LQ (w.alloc (.cells (madeCells #[.int .u8 0] N) 5)) w.heap.size N Tr.nil:=by
 refine⟨_,Whole.new w _ _,by simp[madeCells],λi hi=> ?_⟩;rw[Tr.get_nil];simp[madeCells,hi,Nat.mod_one]
theorem LQ.My:∀(n:Nat) {w:World} {g N:Nat} {t:Tr} (h:LQ w g N t) (a:Nat),a+n<=N->N<16000000->LQ (w.setCells g a (List.replicate n (.int .u8 0))) g N (t.fill a n 0)/\aa (λk=>k=g) w (w.setCells g a (List.replicate n (.int .u8 0)))
 |0,w,g,N,t,h,a,_,_=>⟨h,aa.refl _ _⟩
 |n+1,w,g,N,t,h,a,hr,hN=>by
  have h1:=h.put (i:=a) (by omega) (by omega) 0;obtain⟨h2,k2⟩:=LQ.My n h1 (a+1) (by omega) hN;rw[List.replicate_succ,World.setCells];exact⟨h2,((aa.refl (λk=>k=g) w).setCell (p:=⟨g,a,none⟩) (.inl rfl) _).trans k2⟩
theorem ud(n:Nat)(w:World)(h4:n%4=0)(h1:4<=n)(h2:n<=1048576):Calls prog 126 #[.int .i64 (n:Int)] w λe w'=>∃wb kb,e= .returned (.pointer (some ⟨wb,0,none⟩))/\O0 wb kb (n/4) (n/4) Tr.nil w'/\w.heap.size<=wb/\w.heap.size<=kb/\Below w.heap.size w w':=by
 obtain⟨i0,hi,G9,G8,G7⟩:=info_parts Mf;obtain⟨q,hq⟩:=Fp (n/4);have Ks:=run_make w 73 5 i0 (.int .u8 0) underlying73 hi G9 .i64 .i64 q q (by omega) (by omega) (by rw[G7];omega) (by omega);rw[G8,show(Value.int .u8 0).cells= #[.int .u8 0]from rfl]at Ks;simp only [Int.toNat_natCast,Nat.mul_one]at Ks;have Mh:=ua w q;obtain⟨w1,FJ⟩:=Fp (w.alloc (.cells (madeCells #[.int .u8 0] q) 5));rw[<-FJ]at Ks Mh;have FN:Below w.heap.size w w1:=by rw[FJ];exact(Below.refl _ _).alloc (Fm _) _
 obtain⟨kb,Pq⟩:=Fp w.heap.size;rw[<-Pq]at Ks Mh;obtain⟨w2,FL⟩:=Fp (w1.alloc (.cells #[.slice (some ⟨kb,0,none⟩) q q,.int .i64 0,.int .i64 0] 267));have FF:Below w1.heap.size w1 w2:=by rw[FL];exact(Below.refl _ _).alloc (Fm _) _
 have Kt:Whole w2 w1.heap.size 267 #[.slice (some ⟨kb,0,none⟩) q q,.int .i64 0,.int .i64 0]:=by rw[FL];exact Whole.new _ _ _
 have V9:LQ w2 kb q Tr.nil:=Mh.kept (aa.below FF λ_=>False) id;have Jm:1<=q:=by omega
 have GI:=λty=>Lib.run_clear_slice w2 73 5 ty (.int .u8 0) underlying73 zeroValue5 rfl rfl kb 0 q q (by omega) (λj hj=>by rw[Nat.zero_add,V9.cell hj];rfl) (λj hj=>V9.frozen _);obtain⟨hz,kz⟩:=V9.My q 0 (by omega) (by omega);obtain⟨w3,F7⟩:=Fp (w2.setCells kb 0 (List.replicate q (.int .u8 0)));rw[<-F7]at GI hz kz;have c0:=Kt.cell 0;simp only [List.getElem?_toArray,List.getElem?_cons_zero]at c0;have HNE:Hid (w1.heap.size≠kb):=Fh (by
  have:=Mh.lt;omega)
 have HZ:=Fh hz;have HKZ:=Fh kz;have Sk:=Fh Kt;have HB:=Fh (ah FN FF);have RF:=Fh FN.size;have HKB:=Fh Pq;have HQ:=Fh hq;have m4:(n:Int)%4=0:=by omega
 have e1:decide ((n:Int)<4)=false:=by simp;omega
 have e2:decide (1048576<(n:Int))=false:=by simp;omega
 have e3:decide (n<4)=false:=by simp;omega
 have e4:decide (1048576<n)=false:=by simp;omega
 have D4:Hid ((n:Int)/4=(q:Int)):=Fh (by omega);have Td:=Fh Ks;have JE:=Fh GI;have C0:=Fh c0;have VB:=Fh FL;clear hz kz V9 Mh FN FF Kt Pq FJ hq F7 h4 FL Ks GI c0 hi G9 G8 G7;go_in;go_upto_region 3 with fail;have d4:=D4.o;have Ks:=Td.o;go_upto_region 4 with fail;rw[<-VB.o];clear m4 d4 Ks;have GI:=JE.o;have c0:=C0.o;go_wp2;go_ret;refine⟨_,kb,rfl,?_,RF.o,by rw[HKB.o];exact Fm _,?_⟩
 ·rw[<-HQ.o];exact⟨⟨0,HKZ.o.whole Sk.o HNE.o⟩,HZ.o.congr λi hi=>by rw[Tr.I1 _ _ _ _ _ (by have:=HQ.o;omega),Tr.get_nil];split<;>rfl,Fm _⟩
 ·exact HB.o.trans (HKZ.o.F1 HB.o.size λk hk e=>by have:=HKB.o;omega)
theorem Du(n:Nat)(w:World)(Jp:n%16=0)(h1:16<=n)(h2:n<=1048576):Calls prog 122 #[.int .i64 (n:Int)] w λe w'=>e= .returned (.bool true)/\w'=w:=by
 have m16:(n:Int)%16=0:=by omega
 have e1:decide ((16:Int)<=(n:Int))=true:=by simp;omega
 have e2:decide ((n:Int)<=1048576)=true:=by simp;omega
 have e3:decide (16<=n)=true:=by simp;omega
 have e4:decide (n<=1048576)=true:=by simp;omega
 clear Jp h1 h2;go_in;go_wp2;go_ret;exact⟨rfl,rfl⟩
theorem uf(n:Nat)(w:World)(Jp:n%16=0)(h1:16<=n)(h2:n<=1048576):Calls prog 65 #[.int .i64 (n:Int)] w λe w'=>∃ab gb,e= .returned (.pointer (some ⟨ab,0,none⟩))/\OZ ab gb n n Tr.nil w'/\w.heap.size<=ab/\w.heap.size<=gb/\Below w.heap.size w w':=by
 obtain⟨i0,hi,G9,G8,G7⟩:=info_parts Mf;have Ks:=run_make w 73 5 i0 (.int .u8 0) underlying73 hi G9 .i64 .i64 n n (by omega) (by omega) (by rw[G7];omega) (by omega);rw[G8,show(Value.int .u8 0).cells= #[.int .u8 0]from rfl]at Ks;simp only [Int.toNat_natCast,Nat.mul_one]at Ks;have Mh:=ua w n;obtain⟨w1,FJ⟩:=Fp (w.alloc (.cells (madeCells #[.int .u8 0] n) 5));rw[<-FJ]at Ks Mh;have FN:Below w.heap.size w w1:=by rw[FJ];exact(Below.refl _ _).alloc (Fm _) _
 have YF:=Fh (Du n w Jp h1 h2);have GH:=Fh FN;have HBY:=Fh Mh;have FF:=(Below.refl w1.heap.size w1).alloc (Fm _) (.cells #[.slice (some ⟨w.heap.size,0,none⟩) n n] 188);have Kt:=Whole.new w1 188 #[.slice (some ⟨w.heap.size,0,none⟩) n n];have Gx:=Fh FF;have Sk:=Fh Kt;clear hi G9 G8 G7 Mh FN FJ Jp h1 h2 FF Kt;go_in;go_wp2_with fail;refine YF.o.mono ?_;rintro e w2⟨rfl,rfl⟩;go_wp2;go_ret;exact⟨_,_,rfl,⟨Sk.o,HBY.o.kept (aa.below Gx.o λ_=>False) id,Fm _⟩,GH.o.size,Fm _,ah GH.o Gx.o⟩
theorem iF{l:List Rn}{e k a:Nat}(h:cC l=a)(he:a<e):cD l e k=l++ [⟨a,e-a,k⟩]/\cC (cD l e k)=e:=by
 subst h;have h2:=fJ l e k;unfold cD at h2⊢;rw[if_pos he]at h2⊢;exact⟨rfl,by omega⟩
theorem ug{s n:Nat}(ok:LP s n=true):kH s n= [⟨0,8,1⟩,⟨8,120,2⟩,⟨128,s*16,3⟩,⟨az s,n*4,4⟩]++(if az s+n*4<aN s n then [⟨az s+n*4,aN s n-(az s+n*4),8⟩]else [])++ [⟨aN s n,s*1024,7⟩]:=by
 obtain⟨h1,h2,h3,h4,h5⟩:=bB.1 ok;obtain⟨z1,z2,z3,z4,z5,z6⟩:=bu ok;have hs:az s=128+s*16:=rfl;obtain⟨a1,b1⟩:=iF (l:= []) (e:=8) (k:=1) (a:=0) rfl (by decide);obtain⟨a2,b2⟩:=iF (e:=128) (k:=2) b1 (by decide);obtain⟨a3,b3⟩:=iF (e:=az s) (k:=3) b2 (by omega);obtain⟨a4,b4⟩:=iF (e:=az s+n*4) (k:=4) b3 (by omega);unfold kH;by_cases hb:az s+n*4<aN s n
 ·obtain⟨a5,b5⟩:=iF (e:=aN s n) (k:=8) b4 hb;obtain⟨a6,_⟩:=iF (e:=br s n) (k:=7) b5 (by omega);rw[a6,a5,a4,a3,a2,a1,if_pos hb,show br s n-aN s n=s*1024 by omega,show az s-128=s*16 by omega,show az s+n*4-az s=n*4 by omega];rfl
 ·have e:az s+n*4=aN s n:=by omega
  have a5:cD (cD (cD (cD (cD [] 8 1) 128 2) (az s) 3) (az s+n*4) 4) (aN s n) 8=cD (cD (cD (cD [] 8 1) 128 2) (az s) 3) (az s+n*4) 4:=by
   rw[cD,if_neg (by rw[b4];omega)]
  obtain⟨a6,_⟩:=iF (e:=br s n) (k:=7) b4 (by omega);rw[a5,a6,a4,a3,a2,a1,if_neg hb,e,show br s n-aN s n=s*1024 by omega,show az s-128=s*16 by omega,show aN s n-az s=n*4 by omega];rfl
theorem zl{s n:Nat}(ok:LP s n=true):∀r∈kH s n,r.a%4=0/\r.n%4=0/\r.a+r.n<=br s n/\r.k<=8:=by
 obtain⟨h1,h2,h3,h4,h5⟩:=bB.1 ok;obtain⟨z1,z2,z3,z4,z5,z6⟩:=bu ok;have hs:az s=128+s*16:=rfl;rw[ug ok];intro r hr;simp only [List.mem_append,List.mem_cons,List.not_mem_nil,or_false]at hr;rcases hr with((rfl|rfl|rfl|rfl)|hr)|rfl
 ·dsimp only;omega
 ·dsimp only;omega
 ·dsimp only;omega
 ·dsimp only;omega
 ·split at hr
  ·simp at hr;subst hr;dsimp only;omega
  ·simp at hr
 ·dsimp only;omega
theorem zm{s n:Nat}(ok:LP s n=true):(kH s n).length<=6/\1<=(kH s n).length:=by
 rw[ug ok];split<;>simp
theorem uh{l:List Rn}{i:Nat}(h:i<l.length):gG (l.take (i+1))=(gG (l.take i)).fill (l[i].a/4) (l[i].n/4) l[i].k:=by
 rw[gG,List.take_succ_eq_append_getElem h,List.foldl_append];rfl
theorem wG(s n:Nat)(w:World)(hs:Sz w)(ok:LP s n=true):Calls prog 68 #[.agg #[.int .i64 (s:Int),.int .i64 (n:Int)]] w λe w'=>∃wb kb,e= .returned (.pointer (some ⟨wb,0,none⟩))/\O0 wb kb (br s n/4) (br s n/4) (gG (kH s n)) w'/\w.heap.size<=wb/\w.heap.size<=kb/\Below w.heap.size w w':=by
 obtain⟨w0,Fx,FM,x0,x1⟩:=dp s n w;obtain⟨z1,z2,z3,z4,z5,z6⟩:=bu ok;have LW:=Fh (jb s n w0 (hs.below FM) ok);have GW:=Fh FM;have HS:=Fh hs;have Vz:=Fh ok;obtain⟨sc,hsc⟩:=Fp (br s n);rw[<-hsc]at LW z1 z2 z3;have HSC:=Fh hsc;have hwn:=λW=>ud sc W (by omega) (by omega) (by omega);have HWN:=Fh hwn;have hsc4:sc/4<=50000:=by omega
 have HSC4:Hid (sc/4*4=sc):=Fh (by omega);clear FM hs ok hsc hwn z1 z2 z3 z4 z5 z6;go_in;go_upto_region 1 with fail;rw[<-Fx];clear Fx;go_wp2_with fail;refine LW.o.mono ?_;rintro e w1⟨rfl,FN⟩;have y0:=aK x0 FN;have y1:=aK x1 FN;have GH:=Fh (ah GW.o FN);clear x0 x1 FN;go_wp2_with fail;refine(HWN.o _).mono ?_;rintro e w2⟨wb,kb,rfl,hwa,QM,Pq,FF⟩;have y0:=aK y0 FF;have y1:=aK y1 FF;have Gx:=Fh (ah GH.o FF);have HWA:=Fh hwa;have HWB:Hid (w.heap.size<=wb/\w.heap.size<=kb):=Fh (by have:=GH.o.size;omega);have HRU:=Fh (Bm s n w2 (HS.o.below Gx.o) Vz.o);have HKL:Hid (kb<w2.heap.size):=Fh hwa.2.1.lt;clear FF hwa QM Pq HWN LW;go_wp2_with fail;refine HRU.o.mono ?_;rintro e w3⟨v,rfl,T6,Gf⟩;obtain⟨l,hl⟩:=Fp (kH s n);rw[<-hl]at T6;have hlen:l.length<=6/\1<=l.length:=by rw[hl];exact zm Vz.o
 have HFIT:Hid (∀r∈l,r.a%4=0/\r.n%4=0/\r.a+r.n<=sc/\r.k<=8):=Fh (by rw[hl,HSC.o];exact zl Vz.o);obtain⟨A,c,rfl⟩:=aw T6;obtain⟨g,rfl,hg,Ot,hcell⟩:=bC T6 hlen.2 (by decide);have HL:=Fh hl;have HWA3:Hid (O0 wb kb (sc/4) (sc/4) (gG (l.take 0)) w3):=Fh (HWA.o.kept (aa.below Gf λ_=>False) id id);have M9:=Fh (ah Gx.o Gf);have HC:=Fh hcell;have HGK:Hid (g≠kb):=Fh (by have:=HKL.o;omega);obtain⟨hl6,Pr⟩:=hlen;clear T6 Gf hcell hl y0 y1 HRU HWA hg;go_wp2_with fail
 go_loopw [5,12] (λ_ s12 wr=>∃i:Nat,i<=l.length/\s12= .int .i64 i/\Hid (O0 wb kb (sc/4) (sc/4) (gG (l.take i)) wr)/\Hid (aa (λk=>k=kb) w3 wr)) (λ_ s12 _=>match s12 with| .int _ m=>l.length-m.toNat|_=>0)
 case atStart=>exact⟨0,Nat.zero_le _,rfl,HWA3,Fh (aa.refl _ _)⟩
 case round=>
  obtain⟨i,hi,rfl,HW,HK⟩:=hrel;by_cases FR:i<l.length
  ·obtain⟨g0,g1,g2⟩:=re l i FR;have d0:=HK.o.cell (HC.o _ _ g0) HGK.o;have d1:=HK.o.cell (HC.o _ _ g1) HGK.o;have d2:=HK.o.cell (HC.o _ _ g2) HGK.o;obtain⟨f1,f2,f3,f4⟩:=HFIT.o l[i] (List.getElem_mem FR);obtain⟨r,hr⟩:=Fp (l[i]);rw[<-hr]at d0 d1 d2 f1 f2 f3 f4;have T7:Hid (gG (l.take (i+1))=(gG (l.take i)).fill (r.a/4) (r.n/4) r.k):=Fh (by rw[uh FR,<-hr]);obtain⟨ra,rn,rk⟩:=r;dsimp only at d0 d1 d2 f1 f2 f3 f4 T7;obtain⟨w4,Hn⟩:=Fp (wr.alloc (.cells #[.int .i64 (ra:Int),.int .i64 (rn:Int),.int .i64 (rk:Int)] 197));have Gk:Below wr.heap.size wr w4:=by rw[Hn];exact(Below.refl _ _).alloc (Fm _) _
   have hm:=xP (HW.o.kept (aa.below Gk λ_=>False) id id) (by omega) ra rn rk (by have:=HSC4.o;omega) f1 f2 f4;have QL:=Fh (HK.o.trans (aa.below Gk _));rw[Hn]at hm;have HM:=Fh hm;have HW4:=Fh Hn;clear f1 f2 f3 f4 hr Gk hm g0 g1 g2 Hn;go_wp2_with fail;refine HM.o.mono ?_;rintro e w5⟨rfl,hwa5,O3⟩;rw[<-HW4.o]at O3;have HW5:Hid (O0 wb kb (sc/4) (sc/4) (gG (l.take (i+1))) w5):=Fh (by rw[T7.o];exact hwa5);have NT:=Fh (QL.o.trans O3);clear hwa5 O3;go_wp2;go_roundw
   case rel=>exact⟨i+1,FR,by go_num,HW5,NT⟩
   case measure=>simp;omega
  ·have hii:i=l.length:=by omega
   go_wp2;go_ret;refine⟨_,kb,rfl,?_,HWB.o.1,HWB.o.2,M9.o.trans (HK.o.F1 M9.o.size λk hk e=>by have:=HWB.o;omega)⟩;have h:=HW.o;rw[hii,List.take_length,HL.o]at h;rw[<-HSC.o];exact h
structure xT(B:Nat)(O:av):Prop where
 mb:B<=O.mb
 wb:B<=O.wb
 ab:B<=O.ab
 gb:B<=O.gb
 kb:B<=O.kb
theorem eB.Te{w:World}(h:eB w){i:Nat}(hi:i<21){v:Nat}(hv:TK.getD i 0=v):w.cell? ⟨0,i,none⟩=some (.int .i64 (v:Int)):=by rw[h.fl i hi,hv]
theorem zn(s n:Nat)(w:World)(he:eB w)(ok:LP s n=true):Calls prog 29 #[.agg #[.int .i64 (s:Int),.int .i64 (n:Int)]] w λe w'=>∃O:av,e= .returned (.pointer (some ⟨O.mb,0,none⟩))/\ao O (fB s n) w'/\xT w.heap.size O/\Below w.heap.size w w':=by
 obtain⟨w0,Fx,FM,x0,x1⟩:=dp s n w;obtain⟨k1,k2,k3,k4,k5⟩:=bB.1 ok;obtain⟨z1,z2,z3,z4,z5,z6⟩:=bu ok;have hs:=he.Hk;have HR:=Fh (dU s n w0 (hs.below FM) (by omega) (by omega));have LW:=Fh (λW (h:Below w.heap.size w W)=>jb s n W (hs.below h) ok);have HWA:=Fh (λW (h:Below w.heap.size w W)=>wG s n W (hs.below h) ok);have GW:=Fh FM;have HE:=Fh he;have Vz:=Fh ok;obtain⟨sc,hsc⟩:=Fp (br s n);rw[<-hsc]at LW HWA z1 z2 z3;have HSC:=Fh hsc;have HAN:=Fh (λW=>uf sc W (by omega) (by omega) (by omega));rw[ok]at HR;have hn:n<=8192:=k5;have Si:s<=64:=k2;have VA:Hid (20<=sc/\sc<=1200000):=Fh (by omega);clear FM hs ok hsc he k1 k2 k3 k4 k5 z1 z2 z3 z4 z5 z6;go_in;go_upto_region 1 with fail;rw[<-Fx];clear Fx;go_wp2_with fail;refine HR.o.mono ?_;rintro e w1⟨rfl,FN⟩;have y0:=aK x0 FN;have y1:=aK x1 FN;have GH:=Fh (ah GW.o FN);have HSI1:=Fh (LW.o _ GH.o);clear x0 x1 FN LW;go_wp2_with fail;refine HSI1.o.mono ?_;rintro e w2⟨rfl,FF⟩;have y0:=aK y0 FF;have y1:=aK y1 FF;have Gx:=Fh (ah GH.o FF);clear FF HSI1;go_wp2_with fail;refine(HAN.o _).mono ?_;rintro e w3⟨ab,gb,rfl,haa,LD,Ps,Gf⟩;have y0:=aK y0 Gf;have y1:=aK y1 Gf;have M9:=Fh (ah Gx.o Gf);have YM:Hid (w.heap.size<=ab/\w.heap.size<gb):=Fh (by
  have:=ap y0;have:=Gx.o.size;have h1:=ap (w:=w2) (a:=⟨w.heap.size,0,none⟩) (by assumption);dsimp only at h1;omega)
 obtain⟨w4,Hn⟩:=Fp (w3.alloc (.cells #[.int .i64 1129270338,.int .i64 (s:Int),.int .i64 (n:Int)] 3));have Gk:Below w3.heap.size w3 w4:=by rw[Hn];exact(Below.refl _ _).alloc (Fm _) _
 obtain⟨sb,Jf⟩:=Fp w3.heap.size;have hws:Whole w4 sb 3 #[.int .i64 1129270338,.int .i64 (s:Int),.int .i64 (n:Int)]:=by rw[Hn,Jf];exact Whole.new _ _ _
 have hne:sb≠gb:=by
  have:=haa.2.1.lt;omega
 have I7:OZ ab gb sc sc (yT s n 0) w4:=haa.kept (aa.below Gk λ_=>False) id id;have HA4:=Fh I7;have HWS:=Fh hws;have HNE:=Fh hne;have IM:=Fh (ah M9.o Gk);have XL:=Fh (HE.o.below (ah M9.o Gk));have HY:Hid (w4.cell? ⟨w.heap.size,0,none⟩=some (.int .i64 (s:Int))/\w4.cell? ⟨w.heap.size,1,none⟩=some (.int .i64 (n:Int))):=Fh ⟨aK y0 Gk,aK y1 Gk⟩;have hgt:∀k,Tab k->k≠gb:=λk hk e=>by
  have h1:=HE.o.lt hk;have:=YM.o;omega
 have HGT:=Fh hgt;have HW4:=Fh Hn;have HSB:=Fh Jf;clear haa LD Ps Gf Gk hws hne I7 hgt Hn Jf HAN;go_wp2_with fail;rw[<-HW4.o,<-HSB.o];clear y0 y1
 go_loopw [4,5,18] (λ_ _ T8 wr=>∃i:Nat,i<=3/\T8= .int .i64 i/\Hid (OZ ab gb sc sc (yT s n i) wr)/\Hid (aa (λk=>k=gb) w4 wr)) (λ_ _ T8 _=>match T8 with| .int _ m=>3-m.toNat|_=>0)
 case atStart=>exact⟨0,Nat.zero_le _,rfl,HA4,Fh (aa.refl _ _)⟩
 case round=>
  obtain⟨i,hi,rfl,HA,HK⟩:=hrel;have YN:=Fh (XL.o.kept HK.o HGT.o);have IR:=HK.o.whole HWS.o HNE.o;have d0:=IR.cell 0;have d1:=IR.cell 1;have d2:=IR.cell 2;simp only [List.getElem?_toArray,List.getElem?_cons_zero,List.getElem?_cons_succ]at d0 d1 d2;have hcs:i=0\/i=1\/i=2\/i=3:=by omega
  rcases hcs with rfl|rfl|rfl|rfl
  ·have e0:=YN.o.Te (i:=0) (by decide) (v:=8) rfl;have hp:=sO HA.o VA.o.2 8 4 1129270338 (.inr (.inr (.inl rfl))) (by decide) (by have:=VA.o;omega) (by decide);have HP:=Fh hp;clear hp IR d1 d2;go_wp2_with fail;refine HP.o.mono ?_;rintro e w5⟨rfl,XM,O3⟩;have HA5:Hid (OZ ab gb sc sc (yT s n 1) w5):=Fh XM;have NT:=Fh (HK.o.trans O3);clear XM O3;go_wp2;go_roundw
   case rel=>exact⟨1,by decide,rfl,HA5,NT⟩
   case measure=>simp
  ·have e0:=YN.o.Te (i:=1) (by decide) (v:=12) rfl;have hp:=sO HA.o VA.o.2 12 4 s (.inr (.inr (.inl rfl))) (by decide) (by have:=VA.o;omega) (by omega);have HP:=Fh hp;clear hp IR d0 d2;go_wp2_with fail;refine HP.o.mono ?_;rintro e w5⟨rfl,XM,O3⟩;have HA5:Hid (OZ ab gb sc sc (yT s n 2) w5):=Fh XM;have NT:=Fh (HK.o.trans O3);clear XM O3;go_wp2;go_roundw
   case rel=>exact⟨2,by decide,rfl,HA5,NT⟩
   case measure=>simp
  ·have e0:=YN.o.Te (i:=2) (by decide) (v:=16) rfl;have hp:=sO HA.o VA.o.2 16 4 n (.inr (.inr (.inl rfl))) (by decide) (by have:=VA.o;omega) (by omega);have HP:=Fh hp;clear hp IR d0 d1;go_wp2_with fail;refine HP.o.mono ?_;rintro e w5⟨rfl,XM,O3⟩;have HA5:Hid (OZ ab gb sc sc (yT s n 3) w5):=Fh XM;have NT:=Fh (HK.o.trans O3);clear XM O3;go_wp2;go_roundw
   case rel=>exact⟨3,by decide,rfl,HA5,NT⟩
   case measure=>simp
  ·have Ps:=YM.o.2;have y0:=HK.o.cell HY.o.1 (by simp;omega);have y1:=HK.o.cell HY.o.2 (by simp;omega);have Mi:Hid (Below w.heap.size w wr):=Fh (IM.o.trans (HK.o.F1 IM.o.size λk hk e=>by omega));have HWA5:=Fh (HWA.o wr.drew Mi.o.drew);clear IR d0 d1 d2 Ps;go_wp2_with fail;have Gu:=lJ y0 y1
   go_region_held3 (λw'=>Below wr.heap.size wr w'/\w'.cell? ⟨w.heap.size,0,none⟩=some (.int .i64 (s:Int))/\w'.cell? ⟨w.heap.size,1,none⟩=some (.int .i64 (n:Int)))
    (first|exact Gu|assumption|exact qQ (by assumption) (by assumption)|exact qQ (by assumption) ((Below.refl _ _).alloc (Fm _) _))
    (first
     |((go_at_call 68;with_reducible refine HWA5.o.mono ?_);rintro e w6 ⟨wb,kb,rfl,hwa6,hwb6,hkb6,I3⟩))
   go_wp2;go_ret;have hbW:=(Below.refl w6.heap.size w6).alloc (Fm _) (.cells #[.pointer (some ⟨wb,0,none⟩),.pointer (some ⟨ab,0,none⟩),.int .i64 (s:Int),.int .i64 (n:Int)] 121);have YO:Below wr.heap.size wr w6:=ah (Below.refl _ wr).drew I3;have hwa:=hwa6.kept (aa.below hbW λ_=>False) id id;have haa:=(HA.o.kept (aa.below YO λ_=>False) id id).kept (aa.below hbW λ_=>False) id id;have FR:=HA.o.2.1.lt;have hdr:wr.drew.heap.size=wr.heap.size:=rfl;have F8:(fB s n).size=sc:=HSC.o.symm;have hall:=ah Mi.o (ah YO hbW);refine⟨⟨w6.heap.size,wb,ab,gb,kb,sc,sc/4⟩,rfl,⟨HE.o.below hall,Vz.o,Whole.new _ _ _,?_,?_,?_,?_,?_,?_,?_⟩,⟨?_,?_,YM.o.1,Nat.le_of_lt YM.o.2,?_⟩,hall⟩
   ·rw[F8];exact hwa.1
   ·rw[F8];exact haa.1
   ·rw[F8];exact haa.2.1
   ·rw[F8];exact hwa.2.1
   ·show gb≠kb;omega
   ·rw[F8];exact Fm _
   ·rw[F8];exact Fm _
   ·exact(ah Mi.o YO).size
   ·show w.heap.size<=wb;have:=Mi.o.size;omega
   ·show w.heap.size<=kb;have:=Mi.o.size;omega
section
variable{O:av}{μ:Mm}{w:World}
def ui(b:Bk):Bool:=if b.tag=0 then Nat.beq b.Ft 0&&Nat.beq b.used 0&&Nat.beq b.label 0
  else if b.tag=1 then Nat.ble 1 b.Ft&&Nat.ble b.Ft 9&&Nat.beq b.label 0
  else Nat.ble 1 b.Ft&&Nat.ble b.Ft 9&&Nat.beq b.used 0&&Nat.ble 1 b.label&&Nat.ble b.label 63
theorem wH{b:Bk}(h:2<b.tag):bn b=false:=by
 unfold bn;have:Nat.ble b.tag 2=false:=by rw[Bool.eq_false_iff];intro h2;have:=Nat.le_of_ble_eq_true h2;omega
 rw[this];rfl
theorem wI{b:Bk}(h:480<b.size):bn b=false:=by
 unfold bn;have:Nat.ble b.size 480=false:=by rw[Bool.eq_false_iff];intro h2;have:=Nat.le_of_ble_eq_true h2;omega
 rw[this];simp
theorem sU{b:Bk}(h:aW b=true):bn b=false:=by
 unfold bn;rw[h];simp
theorem wJ{b:Bk}(h1:b.tag<=2)(h2:b.size<=480)(h:aW b=false):bn b=ui b:=by
 unfold bn ui;rw[h,Nat.ble_eq_true_of_le h1,Nat.ble_eq_true_of_le h2];simp
theorem zo(a b:Nat):Nat.ble a b=decide (a<=b):=by
 rw[Bool.eq_iff_iff,decide_eq_true_eq];exact⟨Nat.le_of_ble_eq_true,Nat.ble_eq_true_of_le⟩
theorem qD(a b:Nat):Nat.beq a b=decide (a=b):=by
 rw[Bool.eq_iff_iff,decide_eq_true_eq];exact⟨Nat.eq_of_beq_eq_true,λh=>by rw[h];exact Nat.beq_refl _⟩
set_option maxRecDepth 20000 in
theorem xU(b:Bk)(w:World)(hb:qC b)(hu:b.used<=1)(he:eB w):Calls prog 263 #[.agg (G0 b)] w λe w'=>e= .returned (.bool (bn b))/\Below w.heap.size w w':=by
 obtain⟨w1,FJ⟩:=Fp (w.alloc (.cells (G0 b) 165));have Gp:Whole w1 w.heap.size 165 (G0 b):=by rw[FJ];exact Whole.new w _ _
 have FN:Below w.heap.size w w1:=by rw[FJ];exact(Below.refl _ w).alloc (Fm _) _
 have HL:=Fh (zk b w1 hb hu (he.below FN));have GH:=Fh FN;have Wa:=Fh hb;have J5:=Fh Gp;obtain⟨x0,x1,x2,x3,x4,x5,x6,x7,x8,x9,IQ,I2⟩:=aZ Gp;unfold G0 at FJ HL⊢;clear Gp FN hb;go_in;go_upto_region 1 with fail;rw[<-FJ];clear FJ;go_wp2_with fail;refine(lQ _ _).mono ?_;rintro e w1⟨rfl,rfl⟩;by_cases ht:b.tag<=2
 ·by_cases hz:b.size<=480
  ·have d1:decide ((480:Int)<(b.size:Int))=false:=by simp;omega
   have d2:decide (b.tag<=2)=true:=by simp;omega
   have d3:decide ((b.size:Int)<0)=false:=by simp
   go_wp2_with fail;refine HL.o.mono ?_;rintro e w2⟨rfl,FF⟩;have Gx:=Fh (ah GH.o FF);obtain⟨x0,x1,x2,x3,x4,x5,x6,x7,x8,x9,IQ,I2⟩:=aZ ((FF.block _ J5.o.lt).trans J5.o);clear FF;by_cases hl:aW b=true
   ·have HF:=Fh (sU hl);go_wp2;go_ret;exact⟨aq HF.o.symm,Gx.o⟩
   ·have hl:aW b=false:=by simpa using hl
    have HF:=Fh (wJ ht hz hl);by_cases t0:b.tag=0
    ·have u0:((b.tag:Int)==0)=true:=by rw[t0];rfl
     have KP:Hid (ui b=(decide (b.Ft=0)&&decide (b.used=0)&&decide (b.label=0))):=Fh (by unfold ui;rw[if_pos t0,qD,qD,qD]);clear t0;by_cases k1:b.Ft=0
     ·have m1:((b.Ft:Int)==0)=true:=by rw[k1];rfl
      have m2:decide ((1:Int)<=(b.Ft:Int))=false:=by rw[k1];rfl
      by_cases k2:b.used=1
      ·have m3:decide (b.used=1)=true:=by simp[k2]
       go_wp2;go_ret;exact⟨aq (by rw[HF.o,KP.o];simp[k2]),Gx.o⟩
      ·have m3:decide (b.used=1)=false:=by simp[k2]
       go_wp2;go_ret;exact⟨aq (by rw[HF.o,KP.o];rw[Bool.eq_iff_iff];simp;omega),Gx.o⟩
     ·have m1:((b.Ft:Int)==0)=false:=by rw[Fo];omega
      have m2:decide ((1:Int)<=(b.Ft:Int))=true:=by simp;omega
      by_cases k3:b.Ft<=9
      ·have m4:decide ((b.Ft:Int)<=9)=true:=by simp;omega
       go_wp2;go_ret;exact⟨aq (by rw[HF.o,KP.o];simp[k1]),Gx.o⟩
      ·have m4:decide ((b.Ft:Int)<=9)=false:=by simp;omega
       go_wp2;go_ret;exact⟨aq (by rw[HF.o,KP.o];simp[k1]),Gx.o⟩
    ·have u0:((b.tag:Int)==0)=false:=by rw[Fo];omega
     by_cases t1:b.tag=1
     ·have u1:((b.tag:Int)==1)=true:=by rw[t1];rfl
      have KP:Hid (ui b=(decide (1<=b.Ft)&&decide (b.Ft<=9)&&decide (b.label=0))):=Fh (by unfold ui;rw[if_neg t0,if_pos t1,qD,zo,zo]);clear t0 t1;by_cases k1:1<=b.Ft
      ·have m2:decide ((1:Int)<=(b.Ft:Int))=true:=by simp;omega
       by_cases k3:b.Ft<=9
       ·have m4:decide ((b.Ft:Int)<=9)=true:=by simp;omega
        go_wp2;go_ret;exact⟨aq (by rw[HF.o,KP.o,Bool.eq_iff_iff];simp;omega),Gx.o⟩
       ·have m4:decide ((b.Ft:Int)<=9)=false:=by simp;omega
        go_wp2;go_ret;exact⟨aq (by rw[HF.o,KP.o];simp[k3]),Gx.o⟩
      ·have m2:decide ((1:Int)<=(b.Ft:Int))=false:=by simp;omega
       go_wp2;go_ret;exact⟨aq (by rw[HF.o,KP.o];simp[k1]),Gx.o⟩
     ·have u1:((b.tag:Int)==1)=false:=by rw[Fo];omega
      have KP:Hid (ui b=(decide (1<=b.Ft)&&decide (b.Ft<=9)&&decide (b.used=0)&&decide (1<=b.label)&&decide (b.label<=63))):=Fh (by unfold ui;rw[if_neg t0,if_neg t1,qD,zo,zo,zo,zo]);clear t0 t1;by_cases k1:1<=b.Ft
      ·have m2:decide ((1:Int)<=(b.Ft:Int))=true:=by simp;omega
       by_cases k3:b.Ft<=9
       ·have m4:decide ((b.Ft:Int)<=9)=true:=by simp;omega
        by_cases k2:b.used=1
        ·have m3:decide (b.used=1)=true:=by simp[k2]
         go_wp2;go_ret;exact⟨aq (by rw[HF.o,KP.o];simp[k2]),Gx.o⟩
        ·have m3:decide (b.used=1)=false:=by simp[k2]
         by_cases k5:1<=b.label
         ·have m5:decide ((1:Int)<=(b.label:Int))=true:=by simp;omega
          go_wp2;go_ret;exact⟨aq (by rw[HF.o,KP.o,Bool.eq_iff_iff];simp;omega),Gx.o⟩
         ·have m5:decide ((1:Int)<=(b.label:Int))=false:=by simp;omega
          go_wp2;go_ret;exact⟨aq (by rw[HF.o,KP.o];simp[k5]),Gx.o⟩
       ·have m4:decide ((b.Ft:Int)<=9)=false:=by simp;omega
        go_wp2;go_ret;exact⟨aq (by rw[HF.o,KP.o];simp[k3]),Gx.o⟩
      ·have m2:decide ((1:Int)<=(b.Ft:Int))=false:=by simp;omega
       go_wp2;go_ret;exact⟨aq (by rw[HF.o,KP.o];simp[k1]),Gx.o⟩
  ·have HF:=Fh (wI (b:=b) (by omega));have d1:decide ((480:Int)<(b.size:Int))=true:=by simp;omega
   have d3:decide ((b.size:Int)<0)=false:=by simp
   go_wp2;go_ret;exact⟨aq HF.o.symm,GH.o⟩
 ·have HF:=Fh (wH (b:=b) (by omega));go_wp2;go_ret;exact⟨aq HF.o.symm,GH.o⟩
end
end Go.Proofs.YtifkphcaelafjaaGreatDoor
