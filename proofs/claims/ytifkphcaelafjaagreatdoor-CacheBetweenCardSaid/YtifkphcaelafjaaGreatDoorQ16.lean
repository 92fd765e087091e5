/-
  Lemmas on the way to the row. No condition beyond their own.
-/
import Derived.Test.YtifkphcaelafjaaGreatDoorQ01
set_option maxHeartbeats 25600000
set_option maxRecDepth 100000
set_option linter.unusedVariables false
set_option linter.unusedSimpArgs false
namespace Go.FC
def Fv{β:Type}(f:Nat->β)(a:Nat)(v:β):Nat->β:=λx=>if x=a then v else f x
theorem ak{β:Type}(f:Nat->β)(a:Nat)(v:β):Fv f a v a=v:=if_pos rfl
theorem af{β:Type}(f:Nat->β){a x:Nat}(v:β)(h:x≠a):Fv f a v x=f x:=if_neg h
def No(f:Nat->Nat->Nat)(a p v:Nat):Nat->Nat->Nat:=λt q=>if t=a/\q=p then v else f t q
def aJ(v i:Nat):Nat:=v/256^i%256
structure Lo where
 Fq:Nat
 slots:Nat
 root:Nat->Nat
 head:Nat->Nat->Nat
 slot:Nat->Nat
 byte:Nat->Nat
 kind:Nat->Nat
def n9(p:Nat):Nat:= [0,2,4,8,12].getD p 0
def hW(p:Nat):Nat:= [2,2,4,4,4].getD p 0
def tB(s n g:Nat):Nat:=if g<2 then 1 else if g<32 then 2 else if g<32+s*4 then 3 else if g<32+s*4+n then 4 else 8
namespace Lo
def base(X:Lo):Nat:=aN X.Fq X.slots
def size(X:Lo):Nat:=br X.Fq X.slots
end Lo
structure Is(X:Lo)(m:Mm):Prop where
 Fq:m.Fq=X.Fq
 slots:m.slots=X.slots
 ok:LP X.Fq X.slots=true
 fix:∀g,g<X.base/4->m.k.get g=tB X.Fq X.slots g
 kind:∀g,X.base/4<=g->g<X.size/4->m.k.get g=X.kind g
 root:∀f,f<21->m.b.load (Mm.GA f) (Mm.Gl f)=X.root f
 head:∀s p,s<X.Fq->p<5->m.b.load (128+s*16+n9 p) (hW p)=X.head s p
 slot:∀i,i<X.slots->m.b.load (az X.Fq+i*4) 4=X.slot i
 byte:∀x,X.base<=x->x<X.size->m.b.get x=X.byte x
 U2:∀x,x<8\/(96<=x/\x<128)\/(az X.Fq+X.slots*4<=x/\x<X.base)->m.b.get x=0
theorem I5:∀f,f<21->8<=Mm.GA f/\Mm.GA f+Mm.Gl f<=96/\Mm.GA f%Mm.Gl f=0/\(Mm.Gl f=4\/Mm.Gl f=8):=by decide
theorem ON:∀f,f<21->∀g,g<21->f≠g->Mm.GA g+Mm.Gl g<=Mm.GA f\/Mm.GA f+Mm.Gl f<=Mm.GA g:=by decide
theorem KE:∀p,p<5->n9 p+hW p<=16/\n9 p%hW p=0/\(hW p=4\/hW p=2):=by decide
theorem Rq:∀p,p<5->∀q,q<5->p≠q->n9 q+hW q<=n9 p\/n9 p+hW p<=n9 q:=by decide
namespace Is
variable{X:Lo}{m:Mm}
theorem NL(h:Is X m):7<=X.Fq/\X.Fq<=64/\X.slots%2=0/\X.Fq*32<=X.slots/\X.slots<=8192:=bB.1 h.ok
theorem TD(h:Is X m):m.size=X.size:=by unfold Mm.size Lo.size;rw[h.Fq,h.slots]
theorem bsm(h:Is X m):m.base=X.base:=by unfold Mm.base Lo.base;rw[h.Fq,h.slots]
theorem Hk(h:Is X m):X.size<=200000/\X.size%16=0/\X.base%16=0/\az X.Fq+X.slots*4<=X.base/\X.base+X.Fq*1024=X.size/\az X.Fq=128+X.Fq*16:=by
 obtain⟨h1,h2,h3,h4,h5,h6⟩:=bu h.ok;exact⟨h1,h3,h4,h5,h6,rfl⟩
theorem ldv{a w kind v:Nat}(h:m.may a w kind=true)(e:m.b.load a w=v):m.ld a w kind=some v:=by rw[Mm.ld,if_pos h,e]
theorem stv{a w kind v:Nat}(h:m.may a w kind=true)(e:v<256^w):m.st a w kind v=some {m with b:=m.b.store a w v}:=by rw[Mm.st,if_pos ⟨h,e⟩]
theorem Lt{a n k:Nat}(h1:1<=n)(h2:a+n<=m.size)(hk:∀g,a/4<=g->g<(a+n+3)/4->m.k.get g=k):m.FH a n=k:=by
 have e:=hk (a/4) (Fm _) (by omega);rw[Mm.FH,if_neg (by omega),e,if_pos];exact(Tr.Me _ _ _ _).2 λg g1 g2=>hk g g1 (by omega)
theorem lC{a w k:Nat}(h2:a+w<=m.size)(hw:w=1\/w=2\/w=4\/w=8)(ha:a%w=0)(IK:k≠0)(hk:∀g,a/4<=g->g<(a+w+3)/4->m.k.get g=k):m.may a w k=true:=by
 have e:m.FH a w=k:=Lt (by omega) h2 hk;rw[Mm.may,e];have FJ:Mm.Oq w=true:=by rcases hw with rfl|rfl|rfl|rfl<;>decide
 have JQ:Nat.beq k 0=false:=Tr.I0 IK;simp[FJ,ha,JQ]
theorem SP:(256:Nat)^4=4294967296:=by decide
theorem wrote(h:Is X m){a w v:Nat}(ha:a+w<=X.size){b:Tr}(hb:b=m.b.store a w v){r:Nat->Nat}{hd:Nat->Nat->Nat}{sl:Nat->Nat}{JP:Nat->Nat}
  (hr:∀f,f<21->b.load (Mm.GA f) (Mm.Gl f)=r f) (hh:∀s p,s<X.Fq->p<5->b.load (128+s*16+n9 p) (hW p)=hd s p) (hs:∀i,i<X.slots->b.load (az X.Fq+i*4) 4=sl i)
  (hy:∀x,X.base<=x->x<X.size->b.get x=JP x) (hg:∀x,x<8\/(96<=x/\x<128)\/(az X.Fq+X.slots*4<=x/\x<X.base)->x<a\/a+w<=x):Is {X with root:=r,head:=hd,slot:=sl,byte:=JP} {m with b:=b}:=by
 have hz:=h.Hk;exact⟨h.Fq,h.slots,h.ok,h.fix,h.kind,hr,hh,hs,hy,λx hx=>by
  have e:=hg x hx;have e0:=h.U2 x hx;show b.get x=0;rw[hb,Tr.GV _ _ _ _ _ (by omega),if_neg (by omega),e0]⟩
theorem RZ(h:Is X m){f:Nat}(hf:f<21):m.root f=some (X.root f):=by
 have hz:=h.Hk;have hc:=h.NL;obtain⟨r1,r2,r3,r4⟩:=I5 f hf;refine ldv (lC ?_ (by omega) r3 (by decide) λg g1 g2=> ?_) (h.root f hf)
 ·rw[h.TD];omega
 ·rw[h.fix g (by omega)];unfold tB;rw[if_neg (by omega),if_pos (by omega)]
theorem Kl(h:Is X m){f v:Nat}(hf:f<21)(hv:v<256^Mm.Gl f):∃m',m.FG f v=some m'/\Is {X with root:=Fv X.root f v} m':=by
 have hz:=h.Hk;have hc:=h.NL;obtain⟨r1,r2,r3,r4⟩:=I5 f hf;refine⟨_,stv (lC ?_ (by omega) r3 (by decide) λg g1 g2=> ?_) hv,?_⟩
 ·rw[h.TD];omega
 ·rw[h.fix g (by omega)];unfold tB;rw[if_neg (by omega),if_pos (by omega)]
 ·refine h.wrote (a:=Mm.GA f) (w:=Mm.Gl f) (v:=v) (by omega) rfl (λg hg=> ?_) (λs p hs hp=> ?_) (λi hi=> ?_) (λx h1 h2=> ?_) (λx hx=>by omega)
  ·by_cases e:g=f
   ·subst e;rw[ak,Tr.Jb _ _ _ _ (by omega),Nat.mod_eq_of_lt hv]
   ·rw[af _ _ e,<-h.root g hg];have:=ON f hf g hg (λq=>e q.symm);exact Tr.Gs (by omega) (by omega)
  ·rw[<-h.head s p hs hp];exact Tr.Gs (by omega) (by omega)
  ·rw[<-h.slot i hi];exact Tr.Gs (by omega) (by omega)
  ·rw[<-h.byte x h1 h2,Tr.GV _ _ _ _ _ (by omega),if_neg (by omega)]
theorem JY(h:Is X m){s p:Nat}(hs:s<X.Fq)(hp:p<5):cx s (n9 p) (hW p) m=some (X.head s p):=by
 have hz:=h.Hk;have hc:=h.NL;obtain⟨r1,r2,r3⟩:=KE p hp;rw[cx,if_pos (by rw[h.Fq];exact hs)];refine ldv (lC ?_ (by omega) ?_ (by decide) λg g1 g2=> ?_) (h.head s p hs hp)
 ·rw[h.TD];omega
 ·rcases r3 with e|e<;>rw[e]at r2⊢<;>omega
 ·rw[h.fix g (by omega)];unfold tB;rw[if_neg (by omega),if_neg (by omega),if_pos (by omega)]
theorem IE(h:Is X m){s p v:Nat}(hs:s<X.Fq)(hp:p<5)(hv:v<256^hW p):∃m',dQ s (n9 p) (hW p) v m=some m'/\Is {X with head:=No X.head s p v} m':=by
 have hz:=h.Hk;have hc:=h.NL;obtain⟨r1,r2,r3⟩:=KE p hp;rw[dQ,if_pos (by rw[h.Fq];exact hs)];refine⟨_,stv (lC ?_ (by omega) ?_ (by decide) λg g1 g2=> ?_) hv,?_⟩
 ·rw[h.TD];omega
 ·rcases r3 with e|e<;>rw[e]at r2⊢<;>omega
 ·rw[h.fix g (by omega)];unfold tB;rw[if_neg (by omega),if_neg (by omega),if_pos (by omega)]
 ·refine h.wrote (a:=128+s*16+n9 p) (w:=hW p) (v:=v) (by omega) rfl (λg hg=> ?_) (λt q ht hq=> ?_) (λi hi=> ?_) (λx h1 h2=> ?_) (λx hx=>by omega)
  ·rw[<-h.root g hg];have:=I5 g hg;exact Tr.Gs (by omega) (by omega)
  ·obtain⟨q1,q2,q3⟩:=KE q hq;unfold No;by_cases e:t=s
   ·subst e;by_cases e2:q=p
    ·subst e2;rw[if_pos ⟨rfl,rfl⟩,Tr.Jb _ _ _ _ (by omega),Nat.mod_eq_of_lt hv]
    ·rw[if_neg λg=>e2 g.2,<-h.head t q hs hq];have:=Rq p hp q hq (λq=>e2 q.symm);exact Tr.Gs (by omega) (by omega)
   ·rw[if_neg λg=>e g.1,<-h.head t q ht hq];exact Tr.Gs (by omega) (by omega)
  ·rw[<-h.slot i hi];exact Tr.Gs (by omega) (by omega)
  ·rw[<-h.byte x h1 h2,Tr.GV _ _ _ _ _ (by omega),if_neg (by omega)]
theorem Xh(h:Is X m)(i:Nat):dE i m=some (X.slot (i%X.slots)):=by
 have hz:=h.Hk;have hc:=h.NL;have hi:i%X.slots<X.slots:=Nat.mod_lt _ (by omega);rw[dE,h.slots,h.Fq];refine ldv (lC ?_ (by omega) (by omega) (by decide) λg g1 g2=> ?_) (h.slot _ hi)
 ·rw[h.TD];omega
 ·rw[h.fix g (by omega)];unfold tB;rw[if_neg (by omega),if_neg (by omega),if_neg (by omega),if_pos (by omega)]
theorem Rr(h:Is X m)(i:Nat){v:Nat}(hv:v<4294967296):∃m',cG i v m=some m'/\Is {X with slot:=Fv X.slot (i%X.slots) v} m':=by
 have hz:=h.Hk;have hc:=h.NL;have hi:i%X.slots<X.slots:=Nat.mod_lt _ (by omega);rw[cG,h.slots,h.Fq];refine⟨_,stv (lC ?_ (by omega) (by omega) (by decide) λg g1 g2=> ?_) (by rw[SP];exact hv),?_⟩
 ·rw[h.TD];omega
 ·rw[h.fix g (by omega)];unfold tB;rw[if_neg (by omega),if_neg (by omega),if_neg (by omega),if_pos (by omega)]
 ·refine h.wrote (a:=az X.Fq+i%X.slots*4) (w:=4) (v:=v) (by omega) rfl (λg hg=> ?_) (λt q ht hq=> ?_) (λj hj=> ?_) (λx h1 h2=> ?_) (λx hx=>by omega)
  ·rw[<-h.root g hg];have:=I5 g hg;exact Tr.Gs (by omega) (by omega)
  ·rw[<-h.head t q ht hq];have:=KE q hq;exact Tr.Gs (by omega) (by omega)
  ·by_cases e:j=i%X.slots
   ·rw[e,ak,Tr.Jb _ _ _ _ (by omega),Nat.mod_eq_of_lt (by rw[SP];exact hv)]
   ·rw[af _ _ e,<-h.slot j hj];exact Tr.Gs (by omega) (by omega)
  ·rw[<-h.byte x h1 h2,Tr.GV _ _ _ _ _ (by omega),if_neg (by omega)]
theorem MT(h:Is X m){b:Tr}{JP:Nat->Nat}(h1:∀x,x<X.base->b.get x=m.b.get x)(h2:∀x,X.base<=x->x<X.size->b.get x=JP x):Is {X with byte:=JP} {m with b:=b}:=by
 have hz:=h.Hk;have hc:=h.NL;refine⟨h.Fq,h.slots,h.ok,h.fix,h.kind,λf hf=> ?_,λs p hs hp=> ?_,λi hi=> ?_,h2,λx hx=> ?_⟩
 ·rw[<-h.root f hf];have:=I5 f hf;exact Tr.Iz _ _ _ _ λx x1 x2=>h1 x (by omega)
 ·have PK:s<X.Fq:=hs;rw[<-h.head s p hs hp];have:=KE p hp;exact Tr.Iz _ _ _ _ λx x1 x2=>h1 x (by omega)
 ·have hi':i<X.slots:=hi;rw[<-h.slot i hi];exact Tr.Iz _ _ _ _ λx x1 x2=>h1 x (by have x3:x<az X.Fq+i*4+4:=x2;omega)
 ·show b.get x=0;have GD:x<8\/(96<=x/\x<128)\/(az X.Fq+X.slots*4<=x/\x<X.base):=hx;rw[h1 x (by omega),h.U2 x hx]
def Kd(X:Lo)(a n k:Nat):Prop:=∀g,a/4<=g->g<(a+n+3)/4->X.kind g=k
theorem SQ(h:Is X m){a n k:Nat}(h0:1<=n)(h1:X.base<=a)(h2:a+n<=X.size)(hk:Kd X a n k):m.FH a n=k:=by
 have hz:=h.Hk;exact Lt h0 (by rw[h.TD];exact h2) λg g1 g2=>by rw[h.kind g (by omega) (by omega)];exact hk g g1 g2
theorem Z9(h:Is X m){a w k:Nat}(hw:w=1\/w=2\/w=4\/w=8)(ha:a%w=0)(IK:k≠0)(h1:X.base<=a)(h2:a+w<=X.size)(hk:Kd X a w k):m.may a w k=true:=by
 have hz:=h.Hk;exact lC (by rw[h.TD];exact h2) hw ha IK λg g1 g2=>by rw[h.kind g (by omega) (by omega)];exact hk g g1 g2
theorem R0:∀(w:Nat) {t:Tr} {a v:Nat},v<256^w->(∀i,i<w->t.get (a+i)=aJ v i)->t.load a w=v
 |0,t,a,v,h,_=>by rw[Tr.load];simp at h;omega
 |w+1,t,a,v,h,hg=>by
  rw[Tr.load,R0 w (v:=v/256) (by rw[Nat.pow_succ]at h;omega) (λi hi=>by rw[show a+1+i=a+(i+1)by omega,hg (i+1) (by omega),aJ,aJ,Nat.pow_succ,Nat.mul_comm,<-Nat.div_div_eq_div_mul])];have h0:=hg 0 (by omega);rw[Nat.add_zero]at h0;rw[h0,aJ];simp;omega
theorem ldB(h:Is X m){a w k v:Nat}(hw:w=1\/w=2\/w=4\/w=8)(ha:a%w=0)(IK:k≠0)(h1:X.base<=a)(h2:a+w<=X.size)(hk:Kd X a w k)(hv:v<256^w)(hb:∀i,i<w->X.byte (a+i)=aJ v i):m.ld a w k=some v:=
 ldv (h.Z9 hw ha IK h1 h2 hk) (R0 w hv λi hi=>by rw[h.byte _ (by omega) (by omega),hb i hi])
theorem stB(h:Is X m){a w k v:Nat}(hw:w=1\/w=2\/w=4\/w=8)(ha:a%w=0)(IK:k≠0)(h1:X.base<=a)(h2:a+w<=X.size)(hk:Kd X a w k)(hv:v<256^w):
  ∃m',m.st a w k v=some m'/\Is {X with byte:=λx=>if a<=x/\x<a+w then aJ v (x-a)else X.byte x} m':=by
 have hz:=h.Hk;refine⟨_,stv (h.Z9 hw ha IK h1 h2 hk) hv,h.MT (λx hx=> ?_) λx x1 x2=> ?_⟩
 ·rw[Tr.GV _ _ _ _ _ (by omega),if_neg (by omega)]
 ·rw[Tr.GV _ _ _ _ _ (by omega)];split
  ·rfl
  ·exact h.byte x x1 x2
theorem Rs(h:Is X m){a n k:Nat}(IK:k≠0)(h1:X.base<=a)(h2:a+n<=X.size)(hk:∀g,a/4<=g->g<(a+n+3)/4->X.kind g=k):m.row a n k=true:=by
 rw[Mm.row,h.TD,decide_eq_true h2,Bool.true_and,List.all_eq_true];intro i hi;rw[List.mem_range]at hi;exact h.Z9 (.inl rfl) (Nat.mod_one _) IK (by omega) (by omega) λg g1 g2=>hk g (by omega) (by omega)
theorem R1(h:Is X m){a n k:Nat}(IK:k≠0)(h1:X.base<=a)(h2:a+n<=X.size)(hk:∀g,a/4<=g->g<(a+n+3)/4->X.kind g=k):
  ∃m',m.zero a n k=some m'/\Is {X with byte:=λx=>if a<=x/\x<a+n then 0 else X.byte x} m':=by
 have hz:=h.Hk;refine⟨_,by rw[Mm.zero,if_pos (h.Rs IK h1 h2 hk)],h.MT (λx hx=> ?_) λx x1 x2=> ?_⟩
 ·rw[Tr.I1 _ _ _ _ _ (by omega),if_neg (by omega)]
 ·rw[Tr.I1 _ _ _ _ _ (by omega)];split
  ·rfl
  ·exact h.byte x x1 x2
theorem JW:∀(l:List UInt8) (t:Tr) (a x:Nat),a+l.length<=16000000->(t.lay a l).get x=if a<=x/\x<a+l.length then(l.getD (x-a) 0).toNat else t.get x
 | [],t,a,x,h=>by rw[Tr.lay,if_neg (by rw[List.length_nil];omega)]
 |y::l,t,a,x,h=>by
  rw[List.length_cons]at h;rw[Tr.lay,JW l _ _ _ (by omega),Tr.Hy _ _ _ (by omega),List.length_cons];by_cases e:x=a
  ·subst e;rw[if_neg (by omega),if_pos rfl,if_pos (by omega),Nat.sub_self];have:=y.toNat_lt;simp
  ·rw[if_neg e];by_cases e2:a+1<=x/\x<a+1+l.length
   ·rw[if_pos e2,if_pos (by omega),show x-a=(x-(a+1))+1 by omega,List.getD_cons_succ]
   ·rw[if_neg e2,if_neg (by omega)]
theorem KF(h:Is X m){a k:Nat}{l:List UInt8}(hl:1<=l.length)(IK:k≠0)(h1:X.base<=a)(h2:a+l.length<=X.size)(hk:∀g,a/4<=g->g<(a+l.length+3)/4->X.kind g=k):
  ∃m',cV a k l m=some m'/\Is {X with byte:=λx=>if a<=x/\x<a+l.length then(l.getD (x-a) 0).toNat else X.byte x} m':=by
 have hz:=h.Hk;refine⟨_,by rw[cV,if_pos ⟨hl,h.Rs IK h1 h2 hk⟩],h.MT (λx hx=> ?_) λx x1 x2=> ?_⟩
 ·rw[JW _ _ _ _ (by omega),if_neg (by omega)]
 ·rw[JW _ _ _ _ (by omega)];split
  ·rfl
  ·exact h.byte x x1 x2
theorem R3(h:Is X m){a n k:Nat}{l:List UInt8}(hn:1<=n)(hl:l.length=n)(IK:k≠0)(h1:X.base<=a)(h2:a+n<=X.size)(hk:∀g,a/4<=g->g<(a+n+3)/4->X.kind g=k)
  (hb:∀i,i<n->X.byte (a+i)=(l.getD i 0).toNat):dC a n k m=some l:=by
 rw[dC,if_pos ⟨hn,h.Rs IK h1 h2 hk⟩];congr 1;apply List.ext_getElem
 ·simp[Mm.bytes,hl]
 ·intro i i1 i2;have hi:i<n:=by omega
  simp only [Mm.bytes,List.getElem_map,List.getElem_range];rw[h.byte _ (by omega) (by omega),hb i hi,List.getD_eq_getElem?_getD,Fl i2,Option.getD_some];simp
theorem KG(h:Is X m){a n k:Nat}(h1:X.base<=a)(h2:a+n<=X.size)(ha:a%4=0)(hn:n%4=0)(hk:k<=8):
  ∃m',m.mark a n k=some m'/\Is {X with kind:=λg=>if a/4<=g/\g<(a+n)/4 then k else X.kind g} m':=by
 have hz:=h.Hk;refine⟨{m with k:=m.k.fill (a/4) (n/4) k},by rw[Mm.mark,if_pos ⟨by rw[h.TD];exact h2,ha,hn,hk⟩],h.Fq,h.slots,h.ok,λg hg=> ?_,λg g1 g2=> ?_,h.root,h.head,h.slot,h.byte,h.U2⟩
 ·show(m.k.fill (a/4) (n/4) k).get g=_;have UB:g<X.base/4:=hg;rw[Tr.I1 _ _ _ _ _ (by omega),if_neg (by omega)];exact h.fix g hg
 ·show(m.k.fill (a/4) (n/4) k).get g=_;have g1':X.base/4<=g:=g1;have g2':g<X.size/4:=g2;show _=if a/4<=g/\g<(a+n)/4 then k else X.kind g
  rw[Tr.I1 _ _ _ _ _ (by omega)];by_cases e:a/4<=g/\g<a/4+n/4
  ·rw[if_pos e,if_pos (by omega),Nat.mod_eq_of_lt (by omega)]
  ·rw[if_neg e,if_neg (by omega)];exact h.kind g g1 g2
end Is
end Go.FC
namespace Go.FC
def Mc(ln:Nat->Option Nat)(c:Nat):Nat->Nat->Nat
 |_,0=>0
 |t,k+1=>if ln t=some c then t+1 else Mc ln c (t+1) k
def KV(ln:Nat->Option Nat)(c:Nat):Nat->Nat
 |0=>0
 |t+1=>if ln t=some c then t+1 else KV ln c t
theorem Hg(ln:Nat->Option Nat)(c:Nat):∀(k t:Nat),(Mc ln c t k=0/\∀u,t<=u->u<t+k->ln u≠some c)\/∃u,Mc ln c t k=u+1/\t<=u/\u<t+k/\ln u=some c/\∀q,t<=q->q<u->ln q≠some c
 |0,t=> .inl ⟨rfl,λu h1 h2=>by omega⟩
 |k+1,t=>by
  rw[Mc];by_cases h:ln t=some c
  ·rw[if_pos h];exact .inr ⟨t,rfl,Fm _,by omega,h,λq h1 h2=>by omega⟩
  ·rw[if_neg h];rcases Hg ln c k (t+1)with⟨h1,h2⟩|⟨u,h1,h2,h3,h4,h5⟩
   ·refine .inl ⟨h1,λu h3 h4=> ?_⟩;by_cases e:u=t
    ·rw[e];exact h
    ·exact h2 u (by omega) (by omega)
   ·refine .inr ⟨u,h1,by omega,by omega,h4,λq h6 h7=> ?_⟩;by_cases e:q=t
    ·rw[e];exact h
    ·exact h5 q (by omega) h7
theorem JM(ln:Nat->Option Nat)(c:Nat):∀(t:Nat),(KV ln c t=0/\∀u,u<t->ln u≠some c)\/∃u,KV ln c t=u+1/\u<t/\ln u=some c/\∀q,u<q->q<t->ln q≠some c
 |0=> .inl ⟨rfl,λu h=>by omega⟩
 |t+1=>by
  rw[KV];by_cases h:ln t=some c
  ·rw[if_pos h];exact .inr ⟨t,rfl,by omega,h,λq h1 h2=>by omega⟩
  ·rw[if_neg h];rcases JM ln c t with⟨h1,h2⟩|⟨u,h1,h2,h3,h4⟩
   ·refine .inl ⟨h1,λu h3=> ?_⟩;by_cases e:u=t
    ·rw[e];exact h
    ·exact h2 u (by omega)
   ·refine .inr ⟨u,h1,by omega,h3,λq h6 h7=> ?_⟩;by_cases e:q=t
    ·rw[e];exact h
    ·exact h4 q h6 (by omega)
theorem nB{ln:Nat->Option Nat}{c t k u:Nat}(h1:t<=u)(h2:u<t+k)(h3:ln u=some c)(h4:∀q,t<=q->q<u->ln q≠some c):Mc ln c t k=u+1:=by
 rcases Hg ln c k t with⟨g1,g2⟩|⟨v,g1,g2,g3,g4,g5⟩
 ·exact absurd h3 (g2 u h1 h2)
 ·by_cases e:v=u
  ·rw[g1,e]
  ·by_cases e2:v<u
   ·exact absurd g4 (h4 v g2 e2)
   ·exact absurd h3 (g5 u h1 (by omega))
theorem vE{ln:Nat->Option Nat}{c t k:Nat}(h:∀u,t<=u->u<t+k->ln u≠some c):Mc ln c t k=0:=by
 rcases Hg ln c k t with⟨g1,g2⟩|⟨v,g1,g2,g3,g4,g5⟩
 ·exact g1
 ·exact absurd g4 (h v g2 g3)
theorem xw{ln:Nat->Option Nat}{c t u:Nat}(h2:u<t)(h3:ln u=some c)(h4:∀q,u<q->q<t->ln q≠some c):KV ln c t=u+1:=by
 rcases JM ln c t with⟨g1,g2⟩|⟨v,g1,g2,g3,g4⟩
 ·exact absurd h3 (g2 u h2)
 ·by_cases e:v=u
  ·rw[g1,e]
  ·by_cases e2:v<u
   ·exact absurd h3 (g4 u e2 h2)
   ·exact absurd g3 (h4 v (by omega) g2)
theorem CM{ln:Nat->Option Nat}{c t:Nat}(h:∀u,u<t->ln u≠some c):KV ln c t=0:=by
 rcases JM ln c t with⟨g1,g2⟩|⟨v,g1,g2,g3,g4⟩
 ·exact g1
 ·exact absurd g3 (h v g2)
theorem fx{ln ln':Nat->Option Nat}{c:Nat}:∀(k t:Nat),(∀u,t<=u->u<t+k->(ln u=some c↔ln' u=some c))->Mc ln c t k=Mc ln' c t k
 |0,t,_=>rfl
 |k+1,t,h=>by
  rw[Mc,Mc,fx k (t+1) λu h1 h2=>h u (by omega) (by omega)];by_cases e:ln t=some c
  ·rw[if_pos e,if_pos ((h t (Fm _) (by omega)).1 e)]
  ·rw[if_neg e,if_neg λe'=>e ((h t (Fm _) (by omega)).2 e')]
theorem ku{ln ln':Nat->Option Nat}{c:Nat}:∀(t:Nat),(∀u,u<t->(ln u=some c↔ln' u=some c))->KV ln c t=KV ln' c t
 |0,_=>rfl
 |t+1,h=>by
  rw[KV,KV,ku t λu h1=>h u (by omega)];by_cases e:ln t=some c
  ·rw[if_pos e,if_pos ((h t (by omega)).1 e)]
  ·rw[if_neg e,if_neg λe'=>e ((h t (by omega)).2 e')]
structure Hp where
 Fq:Nat
 slots:Nat
 root:Nat->Nat
 Ft:Nat->Nat
 live:Nat->Nat
 free:Nat->Nat
 ln:Nat->Option Nat
 slot:Nat->Nat
 byte:Nat->Nat
 kind:Nat->Nat
namespace Hp
def next(X:Hp)(s:Nat):Nat:=match X.ln s with
 |none=>0
 |some c=>Mc X.ln c (s+1) (X.Fq-(s+1))
def prev(X:Hp)(s:Nat):Nat:=match X.ln s with
 |none=>0
 |some c=>KV X.ln c s
def first(X:Hp)(c:Nat):Nat:=Mc X.ln c 0 X.Fq
def head(X:Hp)(s p:Nat):Nat:= [X.Ft s,X.live s,X.free s,X.next s,X.prev s].getD p 0
def lo(X:Hp):Lo:= {Fq:=X.Fq,slots:=X.slots,root:=λf=>if 3<=f/\f<13 then X.first (f-3)else X.root f,head:=X.head,slot:=X.slot,byte:=X.byte,kind:=X.kind}
def base(X:Hp):Nat:=aN X.Fq X.slots
def size(X:Hp):Nat:=br X.Fq X.slots
end Hp
theorem Is.congr{X Y:Lo}{m:Mm}(h:Is X m)(h1:Y.Fq=X.Fq)(h2:Y.slots=X.slots)(hr:∀f,f<21->X.root f=Y.root f)(hh:∀s p,s<X.Fq->p<5->X.head s p=Y.head s p)
  (hs:∀i,i<X.slots->X.slot i=Y.slot i) (hb:∀x,X.base<=x->x<X.size->X.byte x=Y.byte x) (hk:∀g,X.base/4<=g->g<X.size/4->X.kind g=Y.kind g):Is Y m:=by
 have eb:Y.base=X.base:=by unfold Lo.base;rw[h1,h2]
 have es:Y.size=X.size:=by unfold Lo.size;rw[h1,h2]
 refine⟨h.Fq.trans h1.symm,h.slots.trans h2.symm,by rw[h1,h2];exact h.ok,?_,?_,?_,?_,?_,?_,?_⟩
 ·rw[eb,h1,h2];exact h.fix
 ·rw[eb,es];intro g g1 g2;rw[h.kind g g1 g2,hk g g1 g2]
 ·intro f hf;rw[h.root f hf,hr f hf]
 ·rw[h1];intro s p hs hp;rw[h.head s p hs hp,hh s p hs hp]
 ·rw[h1,h2];intro i hi;rw[h.slot i hi,hs i hi]
 ·rw[eb,es];intro x x1 x2;rw[h.byte x x1 x2,hb x x1 x2]
 ·rw[eb,h1,h2];exact h.U2
section
variable{X:Hp}{m:Mm}
theorem kw(h:Is X.lo m){s:Nat}(hs:s<X.Fq):dR s m=some ⟨X.Ft s,X.live s,X.free s,X.next s,X.prev s⟩:=by
 have h0:=h.JY (s:=s) (p:=0) hs (by decide);have h1:=h.JY (s:=s) (p:=1) hs (by decide);have h2:=h.JY (s:=s) (p:=2) hs (by decide);have h3:=h.JY (s:=s) (p:=3) hs (by decide);have h4:=h.JY (s:=s) (p:=4) hs (by decide);unfold dR;rw[show cx s 0 2 m=some (X.Ft s)from h0,show cx s 2 2 m=some (X.live s)from h1,show cx s 4 4 m=some (X.free s)from h2,show cx s 8 4 m=some (X.next s)from h3,show cx s 12 4 m=some (X.prev s)from h4];rfl
theorem CN(h:Is X.lo m){f:Nat}(hf:f<21)(h3:f<3\/13<=f):m.root f=some (X.root f):=by
 rw[h.RZ hf];show some (if 3<=f/\f<13 then X.first (f-3)else X.root f)=_;rw[if_neg (by omega)]
theorem pU(h:Is X.lo m){c:Nat}(hc:c<=9):m.root (3+c)=some (X.first c):=by
 rw[h.RZ (f:=3+c) (by omega)];show some (if 3<=3+c/\3+c<13 then X.first (3+c-3)else X.root (3+c))=_;rw[if_pos (by omega),show 3+c-3=c by omega]
theorem vF(h:Is X.lo m){f v:Nat}(hf:f<21)(h3:f<3\/13<=f)(hv:v<256^Mm.Gl f):∃m',m.FG f v=some m'/\Is {X with root:=Fv X.root f v}.lo m':=by
 obtain⟨m',e,hm⟩:=h.Kl hf hv;refine⟨m',e,hm.congr rfl rfl (λg hg=> ?_) (λ_ _ _ _=>rfl) (λ_ _=>rfl) (λ_ _ _=>rfl) λ_ _ _=>rfl⟩;show Fv (λf=>if 3<=f/\f<13 then X.first (f-3)else X.root f) f v g=if 3<=g/\g<13 then X.first (g-3)else Fv X.root f v g
 unfold Fv;by_cases e:g=f
 ·rw[if_pos e,if_pos e,if_neg (by omega)]
 ·rw[if_neg e,if_neg e]
theorem ms(h:Is X.lo m){s:Nat}(hs:s<X.Fq):cx s 8 4 m=some (X.next s):=h.JY (s:=s) (p:=3) hs (by decide)
theorem mu{c s:Nat}(h:X.ln s=some c):X.next s=Mc X.ln c (s+1) (X.Fq-(s+1)):=by unfold Hp.next;rw[h]
theorem ox{c s:Nat}(h:X.ln s=some c):X.prev s=KV X.ln c s:=by unfold Hp.prev;rw[h]
def CO(ln:Nat->Option Nat)(c:Nat):Nat->Nat->List Nat
 |_,0=> []
 |t,k+1=>if ln t=some c then t::CO ln c (t+1) k else CO ln c (t+1) k
theorem nC(h:Is X.lo m)(c:Nat):∀(k t f:Nat),t+k=X.Fq->k+1<=f->bw m f (Mc X.ln c t k)=some (CO X.ln c t k)
 |0,t,f,_,hf=>by
  obtain⟨f,rfl⟩:∃g,f=g+1:=⟨f-1,by omega⟩;rw[Mc,bw,if_pos rfl,CO]
 |k+1,t,f,ht,hf=>by
  rw[Mc,CO];by_cases e:X.ln t=some c
  ·rw[if_pos e,if_pos e];obtain⟨f,rfl⟩:∃g,f=g+1:=⟨f-1,by omega⟩;rw[bw,if_neg (by omega),Nat.add_sub_cancel,ms h (by omega),mu e,show X.Fq-(t+1)=k by omega,Fj,nC h c k (t+1) f (by omega) (by omega)];rfl
  ·rw[if_neg e,if_neg e];exact nC h c k (t+1) f (by omega) (by omega)
theorem lD(h:Is X.lo m)(c s:Nat)(hs:s<X.Fq):∀(k t f:Nat),t+k=X.Fq->k+1<=f->t<=s->gm m s f (Mc X.ln c t k) (KV X.ln c t)=some (decide (X.ln s=some c),KV X.ln c s)
 |0,t,f,ht,hf,PU=>by omega
 |k+1,t,f,ht,hf,PU=>by
  rw[Mc];obtain⟨f,rfl⟩:∃g,f=g+1:=⟨f-1,by omega⟩;by_cases e:X.ln t=some c
  ·rw[if_pos e,gm,if_neg (by omega),if_neg (by omega),Nat.add_sub_cancel];by_cases e2:t=s
   ·subst e2;rw[if_pos rfl,decide_eq_true e]
   ·rw[if_neg e2,ms h (by omega),mu e,Fj,show X.Fq-(t+1)=k by omega];have e3:t+1=KV X.ln c (t+1):=by rw[KV,if_pos e]
    have:=lD h c s hs k (t+1) f (by omega) (by omega) (by omega);rw[<-e3]at this;exact this
  ·rw[if_neg e];by_cases e2:t=s
   ·subst e2;rw[decide_eq_false e];rcases Hg X.ln c k (t+1)with⟨g1,g2⟩|⟨u,g1,g2,g3,g4,g5⟩
    ·rw[g1,gm,if_pos rfl]
    ·rw[g1,gm,if_neg (by omega),if_pos (by omega)]
   ·have e3:KV X.ln c (t+1)=KV X.ln c t:=by rw[KV,if_neg e]
    rw[<-e3];exact lD h c s hs k (t+1) (f+1) (by omega) (by omega) (by omega)
theorem nD(h:Is X.lo m){c s:Nat}(hc:c<=9)(hs:s<X.Fq):cA c s m=some (decide (X.ln s=some c),KV X.ln c s):=by
 have IX:m.Fq=X.Fq:=h.Fq;rw[cA,pU h hc,Fj,Hp.first,IX,nC h c X.Fq 0 _ (by omega) (by omega),Fj];exact lD h c s hs X.Fq 0 _ (by omega) (by omega) (by omega)
theorem sj(h:Is X.lo m){s:Nat}(hs:s<X.Fq)(hn:X.ln s=none):∀(k c:Nat),c+k<=10->iq s m c k=some ()
 |0,c,_=>rfl
 |k+1,c,hc=>by
  rw[iq,nD h (by omega) hs,Fj,hn];exact sj h hs hn k (c+1) (by omega)
structure Nb(X:Hp)(c s p n:Nat):Prop where
 p_:p=KV X.ln c s
 n_:n=Mc X.ln c (s+1) (X.Fq-(s+1))
 ps:(p=0/\∀u,u<s->X.ln u≠some c)\/∃u,p=u+1/\u<s/\X.ln u=some c/\∀q,u<q->q<s->X.ln q≠some c
 ns:(n=0/\∀u,s+1<=u->u<s+1+(X.Fq-(s+1))->X.ln u≠some c)\/∃u,n=u+1/\s+1<=u/\u<s+1+(X.Fq-(s+1))/\X.ln u=some c/\∀q,s+1<=q->q<u->X.ln q≠some c
theorem Nb.of(X:Hp)(c s:Nat):∃p n,Nb X c s p n:=⟨_,_,rfl,rfl,JM _ _ _,Hg _ _ _ _⟩
theorem Nb.first{c s p n:Nat}(h:Nb X c s p n)(hs:s<X.Fq)(hn:X.ln s=none)(hp:p=0):X.first c=n:=by
 unfold Hp.first;rcases h.ps with⟨e,h1⟩|⟨u,e,h1,h2,h3⟩
 ·rcases h.ns with⟨e2,g1⟩|⟨v,e2,g1,g2,g3,g4⟩
  ·rw[e2];exact vE λu hu Pd=>by
    by_cases q:u<s
    ·exact h1 u q
    ·by_cases q2:u=s
     ·rw[q2,hn];exact λq=>by cases q
     ·exact g1 u (by omega) (by omega)
  ·rw[e2];refine nB (by omega) (by omega) g3 λu hu Pd=> ?_;by_cases q:u<s
   ·exact h1 u q
   ·by_cases q2:u=s
    ·rw[q2,hn];exact λq=>by cases q
    ·exact g4 u (by omega) (by omega)
 ·omega
theorem Nb.next{c s p n:Nat}(h:Nb X c s p n)(hs:s<X.Fq)(hn:X.ln s=none)(hp:0<p):X.next (p-1)=n/\p-1<s:=by
 rcases h.ps with⟨e,h1⟩|⟨u,e,h1,h2,h3⟩
 ·omega
 ·refine⟨?_,by omega⟩;rw[e,Nat.add_sub_cancel,mu h2];rcases h.ns with⟨e2,g1⟩|⟨v,e2,g1,g2,g3,g4⟩
  ·rw[e2];exact vE λq hq IH=>by
    by_cases q1:q<s
    ·exact h3 q (by omega) q1
    ·by_cases q2:q=s
     ·rw[q2,hn];exact λq=>by cases q
     ·exact g1 q (by omega) (by omega)
  ·rw[e2];refine nB (by omega) (by omega) g3 λq hq IH=> ?_;by_cases q1:q<s
   ·exact h3 q (by omega) q1
   ·by_cases q2:q=s
    ·rw[q2,hn];exact λq=>by cases q
    ·exact g4 q (by omega) (by omega)
theorem Nb.prev{c s p n:Nat}(h:Nb X c s p n)(hs:s<X.Fq)(hn:X.ln s=none)(hp:0<n):X.prev (n-1)=p/\s<n-1/\n-1<X.Fq:=by
 rcases h.ns with⟨e2,g1⟩|⟨v,e2,g1,g2,g3,g4⟩
 ·omega
 ·refine⟨?_,by omega,by omega⟩;rw[e2,Nat.add_sub_cancel,ox g3];rcases h.ps with⟨e,h1⟩|⟨u,e,h1,h2,h3⟩
  ·rw[e];exact CM λq hq=>by
    by_cases q1:q<s
    ·exact h1 q q1
    ·by_cases q2:q=s
     ·rw[q2,hn];exact λq=>by cases q
     ·exact g4 q (by omega) hq
  ·rw[e];refine xw (by omega) h2 λq hq IH=> ?_;by_cases q1:q<s
   ·exact h3 q hq q1
   ·by_cases q2:q=s
    ·rw[q2,hn];exact λq=>by cases q
    ·exact g4 q (by omega) IH
theorem Nb.le{c s p n:Nat}(h:Nb X c s p n)(hs:s<X.Fq):p<=X.Fq/\n<=X.Fq:=by
 constructor
 ·rcases h.ps with⟨e,_⟩|⟨u,e,h1,_⟩<;>omega
 ·rcases h.ns with⟨e,_⟩|⟨u,e,_,h1,_⟩<;>omega
theorem Nb.root{c s p n:Nat}(h:Nb X c s p n)(hc:c<=9)(hs:s<X.Fq)(hn:X.ln s=none)(f:Nat):(Hp.lo {X with ln:=Fv X.ln s (some c)}).root f=if p=0/\f=3+c then s+1 else X.lo.root f:=by
 have KC:=h.ps;symm;show(if p=0/\f=3+c then s+1 else if 3<=f/\f<13 then X.first (f-3)else X.root f)=if 3<=f/\f<13 then Mc (Fv X.ln s (some c)) (f-3) 0 X.Fq else X.root f
 by_cases f1:3<=f/\f<13
 ·rw[if_pos f1,if_pos f1];by_cases f2:f=3+c
  ·subst f2;rw[show 3+c-3=c by omega];by_cases p0:p=0
   ·rw[if_pos ⟨p0,rfl⟩];refine(nB (by omega) (by omega) (by rw[ak]) λq h1 h2=> ?_).symm;rw[af _ _ (by omega)];rcases KC with⟨_,g⟩|⟨u,g,_⟩
    ·exact g q h2
    ·omega
   ·rw[if_neg λg=>p0 g.1,Hp.first];rcases KC with⟨g,_⟩|⟨u,g1,g2,g3,_⟩
    ·exact absurd g p0
    ·rcases Hg X.ln c X.Fq 0 with⟨_,k2⟩|⟨v,k1,k2,k3,k4,k5⟩
     ·exact absurd g3 (k2 u (by omega) (by omega))
     ·rw[k1];have hv:v<=u:=Nat.le_of_not_lt λhh=>k5 u (by omega) hh g3;refine(nB (by omega) k3 (by rw[af _ _ (by omega)];exact k4) λq q1 q2=> ?_).symm;rw[af _ _ (by omega)];exact k5 q q1 q2
  ·rw[if_neg λg=>f2 g.2,Hp.first];refine fx _ _ λu _ _=> ?_;by_cases us:u=s
   ·rw[us,ak,hn];exact⟨λg=>(by cases g),λg=>(by injection g with g;omega)⟩
   ·rw[af _ _ us]
 ·rw[if_neg f1,if_neg f1,if_neg (by omega)]
theorem Nb.head{c s p n:Nat}(h:Nb X c s p n)(hs:s<X.Fq)(hn:X.ln s=none)(t q:Nat)(ht:t<X.Fq)(hq:q<5):Hp.head {X with ln:=Fv X.ln s (some c)} t q=
  if 0<p/\t=p-1/\q=3 then s+1 else if 0<n/\t=n-1/\q=4 then s+1 else if t=s/\q=3 then n else if t=s/\q=4 then p else X.head t q:=by
 obtain⟨hp,LU,KC,SR⟩:=h;symm;obtain⟨Y,hY⟩:∃Y:Hp,Y= {X with ln:=Fv X.ln s (some c)}:=⟨_,rfl⟩;show(if 0<p/\t=p-1/\q=3 then s+1 else if 0<n/\t=n-1/\q=4 then s+1 else if t=s/\q=3 then n else if t=s/\q=4 then p else X.head t q)=Hp.head {X with ln:=Fv X.ln s (some c)} t q;rw[<-hY];have yl:Y.ln=Fv X.ln s (some c):=by rw[hY]
 have ys:Y.Fq=X.Fq:=by rw[hY]
 have MU:∀u,∀d,d≠c->(X.ln u=some d↔Y.ln u=some d):=λu d hd=>by
  rw[yl];by_cases us:u=s
  ·rw[us,ak,hn];exact⟨λg=>(by cases g),λg=>(by injection g with g;omega)⟩
  ·rw[af _ _ us]
 rcases(show q=0\/q=1\/q=2\/q=3\/q=4 by omega)with rfl|rfl|rfl|rfl|rfl
 ·rw[if_neg (by omega),if_neg (by omega),if_neg (by omega),if_neg (by omega),hY];rfl
 ·rw[if_neg (by omega),if_neg (by omega),if_neg (by omega),if_neg (by omega),hY];rfl
 ·rw[if_neg (by omega),if_neg (by omega),if_neg (by omega),if_neg (by omega),hY];rfl
 ·show _=Y.next t;rw[if_neg (c:=0<n/\t=n-1/\3=4) (by omega),if_neg (c:=t=s/\3=4) (by omega)];by_cases ts:t=s
  ·subst ts;rw[if_neg (by rcases KC with⟨e,_⟩|⟨u,e,g,_⟩<;>omega),if_pos ⟨rfl,rfl⟩,mu (X:=Y) (c:=c) (by rw[yl,ak]),LU,ys];exact fx _ _ λu h1 h2=>by rw[yl,af _ _ (by omega)]
  ·rw[if_neg (c:=t=s/\3=3) (λg=>ts g.1)];have et:Y.ln t=X.ln t:=by rw[yl,af _ _ ts]
   by_cases tp:0<p/\t=p-1
   ·rw[if_pos ⟨tp.1,tp.2,rfl⟩];rcases KC with⟨e,_⟩|⟨u,g1,g2,g3,g4⟩
    ·omega
    ·obtain rfl:t=u:=by omega
     rw[mu (X:=Y) (c:=c) (by rw[et];exact g3),ys];refine(nB (by omega) (by omega) (by rw[yl,ak]) λq q1 q2=> ?_).symm;rw[yl,af _ _ (by omega)];exact g4 q (by omega) q2
   ·rw[if_neg λg=>tp ⟨g.1,g.2.1⟩];show X.next t=Y.next t;unfold Hp.next;rw[et];cases hd:X.ln t with
    |none=>rfl
    |some d=>
     show Mc X.ln d (t+1) (X.Fq-(t+1))=Mc Y.ln d (t+1) (Y.Fq-(t+1));rw[ys];by_cases dc:d=c
     ·subst dc;by_cases PU:t<s
      ·
       rcases KC with⟨_,g⟩|⟨u,g1,g2,g3,g4⟩
       ·exact absurd hd (g t PU)
       ·have Tz:t<u:=by
         by_cases q1:t=u
         ·omega
         ·by_cases q2:u<t
          ·exact absurd hd (g4 t q2 PU)
          ·omega
        rcases Hg X.ln d (X.Fq-(t+1)) (t+1)with⟨_,k2⟩|⟨v,k1,k2,k3,k4,k5⟩
        ·exact absurd g3 (k2 u (by omega) (by omega))
        ·have hv:v<=u:=Nat.le_of_not_lt λhh=>k5 u (by omega) hh g3;rw[k1];refine(nB k2 k3 (by rw[yl,af _ _ (by omega)];exact k4) λq q1 q2=> ?_).symm;rw[yl,af _ _ (by omega)];exact k5 q q1 q2
      ·exact fx _ _ λu h1 h2=>by rw[yl,af _ _ (by omega)]
     ·exact fx _ _ λu _ _=>MU u d dc
 ·show _=Y.prev t;rw[if_neg (c:=0<p/\t=p-1/\4=3) (by omega),if_neg (c:=t=s/\4=3) (by omega)];by_cases ts:t=s
  ·subst ts;rw[if_neg (by rcases SR with⟨e,_⟩|⟨u,e,g,_⟩<;>omega),if_pos ⟨rfl,rfl⟩,ox (X:=Y) (c:=c) (by rw[yl,ak]),hp];exact ku _ λu h1=>by rw[yl,af _ _ (by omega)]
  ·rw[if_neg (c:=t=s/\4=4) (λg=>ts g.1)];have et:Y.ln t=X.ln t:=by rw[yl,af _ _ ts]
   by_cases tp:0<n/\t=n-1
   ·rw[if_pos ⟨tp.1,tp.2,rfl⟩];rcases SR with⟨e,_⟩|⟨u,g1,g2,g3,g4,g5⟩
    ·omega
    ·obtain rfl:t=u:=by omega
     rw[ox (X:=Y) (c:=c) (by rw[et];exact g4)];refine(xw (by omega) (by rw[yl,ak]) λq q1 q2=> ?_).symm;rw[yl,af _ _ (by omega)];exact g5 q (by omega) q2
   ·rw[if_neg λg=>tp ⟨g.1,g.2.1⟩];show X.prev t=Y.prev t;unfold Hp.prev;rw[et];cases hd:X.ln t with
    |none=>rfl
    |some d=>
     show KV X.ln d t=KV Y.ln d t;by_cases dc:d=c
     ·subst dc;by_cases PU:s<t
      ·rcases SR with⟨_,g⟩|⟨u,g1,g2,g3,g4,g5⟩
       ·exact absurd hd (g t (by omega) (by omega))
       ·have Tz:u<t:=by
         by_cases q1:t=u
         ·omega
         ·by_cases q2:t<u
          ·exact absurd hd (g5 t (by omega) q2)
          ·omega
        rcases JM X.ln d t with⟨_,k2⟩|⟨v,k1,k2,k3,k4⟩
        ·exact absurd g4 (k2 u Tz)
        ·have hv:u<=v:=Nat.le_of_not_lt λhh=>k4 u hh Tz g4;rw[k1];refine(xw k2 (by rw[yl,af _ _ (by omega)];exact k3) λq q1 q2=> ?_).symm;rw[yl,af _ _ (by omega)];exact k4 q q1 q2
      ·exact ku _ λu h1=>by rw[yl,af _ _ (by omega)]
     ·exact ku _ λu _=>MU u d dc
theorem Lu(h:Is X.lo m){c s:Nat}(hc:c<=9)(hs:s<X.Fq)(hn:X.ln s=none):∃m',oF c s m=some m'/\Is {X with ln:=Fv X.ln s (some c)}.lo m':=by
 have G5:=h.NL;have IX:X.Fq<=64:=G5.2.1;have w4:∀v,v<=64->v<256^4:=λv hv=>by rw[Is.SP];omega
 obtain⟨p,n,hb⟩:=Nb.of X c s;obtain⟨hp64,hn64⟩:=hb.le hs;have KC:=hb.ps;have SR:=hb.ns;have hfn:(if 0<p then cx (p-1) 8 4 m else some (X.first c))=some n:=by
  by_cases q:0<p
  ·obtain⟨g1,g2⟩:=hb.next hs hn q;rw[if_pos q,ms h (by omega),g1]
  ·rw[if_neg q,hb.first hs hn (by omega)]
 obtain⟨m1,e1,h1⟩:=h.IE (s:=s) (p:=4) (v:=p) hs (by decide) (w4 _ (by omega));obtain⟨m2,e2,h2⟩:=h1.IE (s:=s) (p:=3) (v:=n) hs (by decide) (w4 _ (by omega));obtain⟨m3,e3,h3⟩:∃m3,(if 0<n then dQ (n-1) 12 4 (s+1) m2 else some m2)=some m3/\Is {X.lo with head:=λt q=>if 0<n/\t=n-1/\q=4 then s+1 else if t=s/\q=3 then n else if t=s/\q=4 then p else X.head t q} m3:=by
  by_cases q:0<n
  ·have FF:n-1<X.Fq:=by rcases SR with⟨e,_⟩|⟨u,e,_,g,_⟩<;>omega
   obtain⟨m3,e3,h3⟩:=h2.IE (s:=n-1) (p:=4) (v:=s+1) FF (by decide) (w4 _ (by omega));refine⟨m3,by rw[if_pos q];exact e3,h3.congr rfl rfl (λ_ _=>rfl) (λt q ht hq=> ?_) (λ_ _=>rfl) (λ_ _ _=>rfl) λ_ _ _=>rfl⟩;have hne:n-1≠s:=by rcases SR with⟨e,_⟩|⟨u,e,g,_⟩<;>omega
   show No (No (No X.head s 4 p) s 3 n) (n-1) 4 (s+1) t q=_;simp only [No]
   repeat' split
   all_goals first|rfl|omega
  ·refine⟨m2,by rw[if_neg q],h2.congr rfl rfl (λ_ _=>rfl) (λt q ht hq=> ?_) (λ_ _=>rfl) (λ_ _ _=>rfl) λ_ _ _=>rfl⟩;show No (No X.head s 4 p) s 3 n t q=_;simp only [No]
   repeat' split
   all_goals first|rfl|omega
 obtain⟨m4,e4,h4⟩:∃m4,fy c p (s+1) m3=some m4/\Is {X.lo with
   root:=λf=>if p=0/\f=3+c then s+1 else X.lo.root f
   head:=λt q=>if 0<p/\t=p-1/\q=3 then s+1 else if 0<n/\t=n-1/\q=4 then s+1 else if t=s/\q=3 then n else if t=s/\q=4 then p else X.head t q} m4:=by
  unfold fy;by_cases q:0<p
  ·have FF:p-1<s:=by rcases KC with⟨e,_⟩|⟨u,e,g,_⟩<;>omega
   obtain⟨m4,e4,h4⟩:=h3.IE (s:=p-1) (p:=3) (v:=s+1) (by show p-1<X.Fq;omega) (by decide) (w4 _ (by omega));refine⟨m4,by rw[if_pos q];exact e4,h4.congr rfl rfl (λf hf=> ?_) (λt q ht hq=> ?_) (λ_ _=>rfl) (λ_ _ _=>rfl) λ_ _ _=>rfl⟩
   ·show X.lo.root f=if p=0/\f=3+c then s+1 else X.lo.root f
    rw[if_neg (by omega)]
   ·show No (λt q=>if 0<n/\t=n-1/\q=4 then s+1 else if t=s/\q=3 then n else if t=s/\q=4 then p else X.head t q) (p-1) 3 (s+1) t q=_;simp only [No]
    repeat' split
    all_goals first|rfl|omega
  ·obtain⟨m4,e4,h4⟩:=h3.Kl (f:=3+c) (v:=s+1) (by omega) (by
    have:Mm.Gl (3+c)=4:=by unfold Mm.Gl;rw[if_neg (by omega)]
    rw[this];exact w4 _ (by omega))
   refine⟨m4,by rw[if_neg q];exact e4,h4.congr rfl rfl (λf hf=> ?_) (λt q ht hq=> ?_) (λ_ _=>rfl) (λ_ _ _=>rfl) λ_ _ _=>rfl⟩
   ·show Fv X.lo.root (3+c) (s+1) f=if p=0/\f=3+c then s+1 else X.lo.root f
    unfold Fv;by_cases f1:f=3+c
    ·rw[if_pos f1,if_pos ⟨by omega,f1⟩]
    ·rw[if_neg f1,if_neg λg=>f1 g.2]
   ·show(if 0<n/\t=n-1/\q=4 then s+1 else _)=if 0<p/\t=p-1/\q=3 then s+1 else _
    rw[if_neg (c:=0<p/\t=p-1/\q=3) (by omega)]
 refine⟨m4,?_,h4.congr rfl rfl (λf hf=> ?_) (λt q ht hq=> ?_) (λ_ _=>rfl) (λ_ _ _=>rfl) λ_ _ _=>rfl⟩
 ·rw[oF,sj h hs hn 10 0 (by omega),Fj,nD h hc hs,Fj,pU h hc,Fj];show(if 0<KV X.ln c s then cx (KV X.ln c s-1) 8 4 m else some (X.first c)).bind (λn=>nK c s (KV X.ln c s) n m)=_;rw[<-hb.p_,hfn,Fj,nK,show dQ s 12 4 p m=some m1 from e1,Fj,show dQ s 8 4 n m1=some m2 from e2,Fj,e3,Fj,e4]
 ·exact(hb.root hc hs hn f).symm
 ·exact(hb.head hs hn t q ht hq).symm
theorem IV(h:Is X.lo m){c s:Nat}(hc:c<=9)(hs:s<X.Fq)(Kf:X.ln s=some c):∃m',oG c s m=some m'/\Is {X with ln:=Fv X.ln s none}.lo m':=by
 have IX:X.Fq<=64:=h.NL.2.1;have w4:∀v,v<=64->v<256^4:=λv hv=>by rw[Is.SP];omega
 obtain⟨Y,hY⟩:∃Y:Hp,Y= {X with ln:=Fv X.ln s none}:=⟨_,rfl⟩;have yn:Y.ln s=none:=by rw[hY];exact ak _ _ _
 have ys:Y.Fq=X.Fq:=by rw[hY]
 have hZ: {Y with ln:=Fv Y.ln s (some c)}=X:=by
  have e:Fv (Fv X.ln s none) s (some c)=X.ln:=by
   funext t;unfold Fv;by_cases q:t=s
   ·rw[if_pos q,q,Kf]
   ·rw[if_neg q,if_neg q]
  rw[hY];cases X;simp only at e;simp only [e]
 rw[<-hY];have PK:s<Y.Fq:=by rw[ys];exact hs
 obtain⟨p,n,hb⟩:=Nb.of Y c s;obtain⟨hp64,hn64⟩:=hb.le PK;rw[ys]at hp64 hn64;have Yv:=hb.root hc PK yn;have PV:=hb.head PK yn;rw[hZ]at Yv PV;rw[ys]at PV;have KC:0<p->p-1<s:=λq=>(hb.next PK yn q).2;have SR:0<n->s<n-1/\n-1<X.Fq:=λq=>by have:=(hb.prev PK yn q).2;omega
 have ep:KV X.ln c s=p:=by
  rw[<-ox Kf];have:=PV s 4 hs (by decide);rw[if_neg (by omega),if_neg (by omega),if_neg (by omega),if_pos ⟨rfl,rfl⟩]at this;exact this
 have en:X.next s=n:=by
  have:=PV s 3 hs (by decide);rw[if_neg (by omega),if_neg (by omega),if_pos ⟨rfl,rfl⟩]at this;exact this
 obtain⟨m1,e1,h1⟩:∃m1,fy c p n m=some m1/\Is {X.lo with root:=λf=>if p=0/\f=3+c then n else X.lo.root f,head:=λt q=>if 0<p/\t=p-1/\q=3 then n else X.head t q} m1:=by
  unfold fy;by_cases q:0<p
  ·have:=KC q;obtain⟨m1,e1,h1⟩:=h.IE (s:=p-1) (p:=3) (v:=n) (by show p-1<X.Fq;omega) (by decide) (w4 _ (by omega));refine⟨m1,by rw[if_pos q];exact e1,h1.congr rfl rfl (λf hf=> ?_) (λt q ht hq=> ?_) (λ_ _=>rfl) (λ_ _ _=>rfl) λ_ _ _=>rfl⟩
   ·show X.lo.root f=if p=0/\f=3+c then n else X.lo.root f
    rw[if_neg (by omega)]
   ·show No X.head (p-1) 3 n t q=_;simp only [No]
    repeat' split
    all_goals first|rfl|omega
  ·obtain⟨m1,e1,h1⟩:=h.Kl (f:=3+c) (v:=n) (by omega) (by
    have:Mm.Gl (3+c)=4:=by unfold Mm.Gl;rw[if_neg (by omega)]
    rw[this];exact w4 _ (by omega))
   refine⟨m1,by rw[if_neg q];exact e1,h1.congr rfl rfl (λf hf=> ?_) (λt q ht hq=> ?_) (λ_ _=>rfl) (λ_ _ _=>rfl) λ_ _ _=>rfl⟩
   ·show Fv X.lo.root (3+c) n f=if p=0/\f=3+c then n else X.lo.root f
    unfold Fv;by_cases f1:f=3+c
    ·rw[if_pos f1,if_pos ⟨by omega,f1⟩]
    ·rw[if_neg f1,if_neg λg=>f1 g.2]
   ·show X.head t q=if 0<p/\t=p-1/\q=3 then n else X.head t q
    rw[if_neg (by omega)]
 obtain⟨m2,e2,h2⟩:∃m2,(if 0<n then dQ (n-1) 12 4 p m1 else some m1)=some m2/\Is {X.lo with root:=λf=>if p=0/\f=3+c then n else X.lo.root f,head:=λt q=>if 0<n/\t=n-1/\q=4 then p else if 0<p/\t=p-1/\q=3 then n else X.head t q} m2:=by
  by_cases q:0<n
  ·obtain⟨m2,e2,h2⟩:=h1.IE (s:=n-1) (p:=4) (v:=p) (SR q).2 (by decide) (w4 _ (by omega));refine⟨m2,by rw[if_pos q];exact e2,h2.congr rfl rfl (λ_ _=>rfl) (λt r ht hq=> ?_) (λ_ _=>rfl) (λ_ _ _=>rfl) λ_ _ _=>rfl⟩;show No (λt q=>if 0<p/\t=p-1/\q=3 then n else X.head t q) (n-1) 4 p t r=_;simp only [No]
   repeat' split
   all_goals first|rfl|omega
  ·refine⟨m1,by rw[if_neg q],h1.congr rfl rfl (λ_ _=>rfl) (λt r ht hq=> ?_) (λ_ _=>rfl) (λ_ _ _=>rfl) λ_ _ _=>rfl⟩;show _=if 0<n/\t=n-1/\r=4 then p else _
   rw[if_neg (by omega)]
 obtain⟨m3,e3,h3⟩:=h2.IE (s:=s) (p:=3) (v:=0) hs (by decide) (w4 _ (by omega));obtain⟨m4,e4,h4⟩:=h3.IE (s:=s) (p:=4) (v:=0) hs (by decide) (w4 _ (by omega));refine⟨m4,?_,h4.congr (by rw[hY];rfl) (by rw[hY];rfl) (λf hf=> ?_) (λt q ht hq=> ?_) (λ_ _=>by rw[hY];rfl) (λ_ _ _=>by rw[hY];rfl) λ_ _ _=>by rw[hY];rfl⟩
 ·rw[oG,nD h hc hs,Fj,Kf];show(if decide (some c=some c)=false then none else _)=_;rw[if_neg (by simp),ms h hs,Fj,en];show(fy c (KV X.ln c s) n m).bind _=_;rw[ep,e1,Fj,e2,Fj,show dQ s 8 4 0 m2=some m3 from e3,Fj];exact e4
 ·show(if p=0/\f=3+c then n else X.lo.root f)=Y.lo.root f;rw[Yv f];by_cases f1:p=0/\f=3+c
  ·rw[if_pos f1,f1.2];show n=if 3<=3+c/\3+c<13 then Y.first (3+c-3)else Y.root (3+c)
   rw[if_pos (by omega),show 3+c-3=c by omega,hb.first PK yn f1.1]
  ·rw[if_neg f1,if_neg f1]
 ·have Np:t<X.Fq:=ht;show No (No (λt q=>if 0<n/\t=n-1/\q=4 then p else if 0<p/\t=p-1/\q=3 then n else X.head t q) s 3 0) s 4 0 t q=Y.head t q;have z3:Y.head s 3=0:=by show Y.next s=0;unfold Hp.next;rw[yn]
  have z4:Y.head s 4=0:=by show Y.prev s=0;unfold Hp.prev;rw[yn]
  have hh:=PV t q Np hq;simp only [No];by_cases ts:t=s
  ·subst ts;by_cases q4:q=4
   ·rw[if_pos ⟨rfl,q4⟩,q4,z4]
   ·rw[if_neg λg=>q4 g.2];by_cases q3:q=3
    ·rw[if_pos ⟨rfl,q3⟩,q3,z3]
    ·rw[if_neg λg=>q3 g.2,if_neg (by omega),if_neg (by omega),hh,if_neg (by omega),if_neg (by omega),if_neg (by omega),if_neg (by omega)]
  ·rw[if_neg λg=>ts g.1,if_neg λg=>ts g.1];by_cases a1:0<n/\t=n-1/\q=4
   ·rw[if_pos a1,a1.2.1,a1.2.2];exact(hb.prev PK yn a1.1).1.symm
   ·rw[if_neg a1];by_cases a2:0<p/\t=p-1/\q=3
    ·rw[if_pos a2,a2.2.1,a2.2.2];exact(hb.next PK yn a2.1).1.symm
    ·rw[if_neg a2,hh,if_neg a2,if_neg a1,if_neg λg=>ts g.1,if_neg λg=>ts g.1]
theorem oy(h:Is X.lo m){s c l f:Nat}(hs:s<X.Fq)(hc:c<=9)(hl:l<65536)(hf:f<4294967296):∃m',gS s c l f m=some m'/\Is {X with Ft:=Fv X.Ft s c,live:=Fv X.live s l,free:=Fv X.free s f}.lo m':=by
 obtain⟨m1,e1,h1⟩:=h.IE (s:=s) (p:=0) (v:=c) hs (by decide) (by show c<65536;omega);obtain⟨m2,e2,h2⟩:=h1.IE (s:=s) (p:=1) (v:=l) hs (by decide) hl;obtain⟨m3,e3,h3⟩:=h2.IE (s:=s) (p:=2) (v:=f) hs (by decide) hf;refine⟨m3,?_,h3.congr rfl rfl (λ_ _=>rfl) (λt q ht hq=> ?_) (λ_ _=>rfl) (λ_ _ _=>rfl) λ_ _ _=>rfl⟩
 ·rw[gS,if_pos hc,show dQ s 0 2 c m=some m1 from e1,Fj,show dQ s 2 2 l m1=some m2 from e2,Fj];exact e3
 ·show No (No (No X.head s 0 c) s 1 l) s 2 f t q= [Fv X.Ft s c t,Fv X.live s l t,Fv X.free s f t,X.next t,X.prev t].getD q 0;unfold No Fv;by_cases ts:t=s
  ·rcases(show q=0\/q=1\/q=2\/q=3\/q=4 by omega)with rfl|rfl|rfl|rfl|rfl<;>simp[ts,Hp.head]
  ·rcases(show q=0\/q=1\/q=2\/q=3\/q=4 by omega)with rfl|rfl|rfl|rfl|rfl<;>simp[ts,Hp.head]
end
structure Ob where
 b:Bk
 d:List UInt8
structure Sb where
 Ft:Nat
 free:List Nat
structure Fw where
 Fq:Nat
 slots:Nat
 sl:Nat->Sb
 out:Nat->Bool
 ob:Nat->Option Ob
 slot:Nat->Nat
 root:Nat->Nat
theorem Nq:∀c,1<=c->c<=9->32<=ae c/\ae c%16=0/\1<=ai c/\ai c<=32/\ae c*ai c+fA c=1024/\fA c%16=0/\ae c<=512/\ae c*ai c%16=0:=by
 have:∀c,c<10->1<=c->32<=ae c/\ae c%16=0/\1<=ai c/\ai c<=32/\ae c*ai c+fA c=1024/\fA c%16=0/\ae c<=512/\ae c*ai c%16=0:=by decide
 exact λc h1 h2=>this c (by omega) h1
theorem Lv:ae 0=0/\ai 0=0:=by decide
def Ig:List Nat->Nat->Nat
 | [],_=>0
 |x::l,a=>if x=a then l.headD 0 else Ig l a
def cN(n o:Nat):Nat:=if 4<=o/\o<8 then aJ n (o-4)else 0
def hlen(t:Nat):Nat:=if t=1 then 32 else 16
def dP(b:Bk)(o:Nat):Nat:=
 if o<1 then b.tag else if o<2 then b.Ft else if o<3 then b.used else if o<4 then b.label else if o<8 then aJ b.name (o-4)
 else if b.tag=1 then(if o<12 then aJ b.next (o-8)else if o<16 then aJ b.prev (o-12)else if o<24 then aJ b.FB (o-16)else if o<26 then aJ b.typ (o-24)else if o<28 then aJ b.size (o-26)else aJ b.hash (o-28))
 else(if o<12 then aJ b.refs (o-8)else aJ b.hash (o-12))
def bz(x:Ob)(o:Nat):Nat:=if o<hlen x.b.tag then dP x.b o else(x.d.getD (o-hlen x.b.tag) 0).toNat
namespace Fw
def base(S:Fw):Nat:=aN S.Fq S.slots
def size(S:Fw):Nat:=br S.Fq S.slots
def sa(S:Fw)(s:Nat):Nat:=S.base+s*1024
def ba(S:Fw)(s i:Nat):Nat:=S.sa s+i*ae (S.sl s).Ft
def At(S:Fw)(a s i:Nat):Prop:=s<S.Fq/\i<ai (S.sl s).Ft/\a=S.ba s i
def GY(S:Fw)(s:Nat):Option Nat:=if S.out s=true then none else if(S.sl s).Ft=0 then some 0 else if(S.sl s).free= []then none else some (S.sl s).Ft
def bb(S:Fw)(s a o:Nat):Nat:=if a∈(S.sl s).free then cN (Ig (S.sl s).free a) o else match S.ob a with
 |none=>0
 |some x=>bz x o
def kk(S:Fw)(s a:Nat):Nat:=if a∈(S.sl s).free then 6 else 5
end Fw
structure nE(S:Fw)(X:Hp)(s:Nat):Prop where
 c9:(S.sl s).Ft<=9
 Ft:X.Ft s=(S.sl s).Ft
 live:X.live s+(S.sl s).free.length=ai (S.sl s).Ft
 free:X.free s=(S.sl s).free.headD 0
 ln:X.ln s=S.GY s
 z:(S.sl s).Ft=0->∀r,r<1024->X.byte (S.sa s+r)=0/\X.kind ((S.sa s+r)/4)=7
 b:∀i,i<ai (S.sl s).Ft->∀o,o<ae (S.sl s).Ft->X.byte (S.ba s i+o)=S.bb s (S.ba s i) o/\X.kind ((S.ba s i+o)/4)=S.kk s (S.ba s i)
 p:(S.sl s).Ft≠0->∀r,ae (S.sl s).Ft*ai (S.sl s).Ft<=r->r<1024->X.byte (S.sa s+r)=0/\X.kind ((S.sa s+r)/4)=8
structure aQ(S:Fw)(X:Hp):Prop where
 Fq:X.Fq=S.Fq
 slots:X.slots=S.slots
 root:∀f,f<3\/13<=f->f<21->X.root f=S.root f
 slot:∀i,i<S.slots->X.slot i=S.slot i
 sl:∀s,s<S.Fq->nE S X s
def NM(S:Fw)(m:Mm):Prop:=∃X:Hp,Is X.lo m/\aQ S X
namespace Fw
variable{S:Fw}
theorem At.c{a s i:Nat}(h:S.At a s i)(h9:(S.sl s).Ft<=9):1<=(S.sl s).Ft:=by
 by_cases e:(S.sl s).Ft=0
 ·have:=h.2.1;rw[e,Lv.2]at this;omega
 ·omega
theorem At.R4{a s i:Nat}(h:S.At a s i)(h9:(S.sl s).Ft<=9):S.sa s<=a/\a+ae (S.sl s).Ft<=S.sa s+1024:=by
 have hc:=h.c h9;obtain⟨z1,z2,z3,z4,z5,z6,z7,z8⟩:=Nq _ hc h9;have h1:(i+1)*ae (S.sl s).Ft<=ai (S.sl s).Ft*ae (S.sl s).Ft:=Nat.mul_le_mul_right _ h.2.1;rw[Nat.add_mul,Nat.one_mul,Nat.mul_comm (ai _)]at h1;rw[h.2.2,ba];omega
theorem At.apart{a s i a' s' i':Nat}(h:S.At a s i)(h':S.At a' s' i')(h9:(S.sl s).Ft<=9)(h9':(S.sl s').Ft<=9)(hn:a≠a'):a+ae (S.sl s).Ft<=a'\/a'+ae (S.sl s').Ft<=a:=by
 have h1:=h.R4 h9;have h2:=h'.R4 h9';by_cases e:s=s'
 ·subst e;have e1:=h.2.2;have e2:=h'.2.2;unfold ba at e1 e2;rcases Nat.lt_trichotomy i i' with g|g|g
  ·left;have h3:(i+1)*ae (S.sl s).Ft<=i'*ae (S.sl s).Ft:=Nat.mul_le_mul_right _ g;rw[Nat.add_mul,Nat.one_mul]at h3;omega
  ·subst g;omega
  ·right;have h3:(i'+1)*ae (S.sl s).Ft<=i*ae (S.sl s).Ft:=Nat.mul_le_mul_right _ g;rw[Nat.add_mul,Nat.one_mul]at h3;omega
 ·unfold sa at h1 h2;omega
theorem At.inj{a s i s' i':Nat}(h:S.At a s i)(h':S.At a s' i')(h9:(S.sl s).Ft<=9)(h9':(S.sl s').Ft<=9):s=s'/\i=i':=by
 have h1:=h.R4 h9;have h2:=h'.R4 h9';obtain⟨z1,_⟩:=Nq _ (h.c h9) h9;obtain⟨y1,_⟩:=Nq _ (h'.c h9') h9';have e:s=s':=by unfold sa at h1 h2;omega
 subst e;refine⟨rfl,?_⟩;have e1:=h.2.2;have e2:=h'.2.2;unfold ba at e1 e2;have e3:i*ae (S.sl s).Ft=i'*ae (S.sl s).Ft:=by omega
 exact Nat.eq_of_mul_eq_mul_right (by omega) e3
end Fw
section
variable{S:Fw}{X:Hp}{m:Mm}
theorem aQ.Hk(h:aQ S X)(hm:Is X.lo m):S.size<=200000/\S.size%16=0/\S.base%16=0/\az S.Fq+S.slots*4<=S.base/\S.base+S.Fq*1024=S.size/\az S.Fq=128+S.Fq*16/\X.lo.base=S.base/\X.lo.size=S.size/\7<=S.Fq/\S.Fq<=64/\S.slots%2=0/\S.Fq*32<=S.slots/\S.slots<=8192:=by
 have h1:=hm.Hk;have h2:=hm.NL;have e1:X.lo.Fq=S.Fq:=h.Fq;have e2:X.lo.slots=S.slots:=h.slots;have e3:X.lo.base=S.base:=by unfold Lo.base Fw.base;rw[e1,e2]
 have e4:X.lo.size=S.size:=by unfold Lo.size Fw.size;rw[e1,e2]
 rw[e1,e2]at h2;rw[e1,e2,e3,e4]at h1;exact⟨h1.1,h1.2.1,h1.2.2.1,h1.2.2.2.1,h1.2.2.2.2.1,h1.2.2.2.2.2,e3,e4,h2⟩
theorem aQ.MV(h:aQ S X)(hm:Is X.lo m){a s i:Nat}(ha:S.At a s i):1<=(S.sl s).Ft/\(S.sl s).Ft<=9/\X.lo.base<=a/\a+ae (S.sl s).Ft<=X.lo.size/\a%16=0/\32<=ae (S.sl s).Ft/\ae (S.sl s).Ft%16=0/\a<200000/\ae (S.sl s).Ft<=512:=by
 have hs:=h.sl s ha.1;have hz:=h.Hk hm;have h1:=ha.R4 hs.c9;have hc:=ha.c hs.c9;obtain⟨z1,z2,_,_,_,_,z7,_⟩:=Nq _ hc hs.c9;have e:=ha.2.2;unfold Fw.ba at e;have Mw:i*ae (S.sl s).Ft%16=0:=by rw[Nat.mul_mod,z2,Nat.mul_zero]
 unfold Fw.sa at h1 e;have:=ha.1;refine⟨hc,hs.c9,by omega,by omega,by omega,z1,z2,by omega,z7⟩
theorem aQ.kd(h:aQ S X)(hm:Is X.lo m){a s i:Nat}(ha:S.At a s i){o n:Nat}(ho:o+n<=ae (S.sl s).Ft):∀g,(a+o)/4<=g->g<(a+o+n+3)/4->X.kind g=S.kk s a:=by
 intro g g1 g2;obtain⟨b1,b2,b3,b4,b5,b6,b7,b8,b9⟩:=h.MV hm ha;have hs:=h.sl s ha.1;have:=(hs.b i ha.2.1 (4*g-a) (by omega)).2;rw[<-ha.2.2]at this;rw[show(a+(4*g-a))/4=g by omega]at this;exact this
theorem aQ.JP(h:aQ S X){a s i:Nat}(ha:S.At a s i){o:Nat}(ho:o<ae (S.sl s).Ft):X.byte (a+o)=S.bb s a o:=by
 have:=((h.sl s ha.1).b i ha.2.1 o ho).1;rw[<-ha.2.2]at this;exact this
theorem aQ.ld(h:aQ S X)(hm:Is X.lo m){a s i:Nat}(ha:S.At a s i){o w v:Nat}(ho:o+w<=ae (S.sl s).Ft)(hw:w=1\/w=2\/w=4\/w=8)(hd:o%w=0)(hv:v<256^w)(hb:∀j,j<w->S.bb s a (o+j)=aJ v j):m.ld (a+o) w (S.kk s a)=some v:=by
 obtain⟨b1,b2,b3,b4,b5,b6,b7,b8,b9⟩:=h.MV hm ha;refine hm.ldB hw ?_ ?_ (by omega) (by omega) (λg g1 g2=>h.kd hm ha ho g g1 g2) hv λj hj=> ?_
 ·rcases hw with rfl|rfl|rfl|rfl<;>omega
 ·unfold Fw.kk;split<;>decide
 ·show X.byte (a+o+j)=_;rw[Nat.add_assoc,h.JP ha (by omega),hb j hj]
theorem aQ.FH(h:aQ S X)(hm:Is X.lo m){a s i n:Nat}(ha:S.At a s i)(h1:1<=n)(h2:n<=ae (S.sl s).Ft):m.FH a n=S.kk s a:=by
 obtain⟨b1,b2,b3,b4,b5,b6,b7,b8,b9⟩:=h.MV hm ha;exact hm.SQ h1 b3 (by omega) λg g1 g2=>h.kd hm ha (o:=0) (n:=n) (by omega) g (by simpa using g1) (by simpa using g2)
end
structure cX(x:Ob):Prop where
 right:bn x.b=true
 tag:x.b.tag=1\/x.b.tag=2
 used:x.b.used<=1
 name:x.b.name<4294967296
 next:x.b.next<4294967296
 prev:x.b.prev<4294967296
 refs:x.b.refs<4294967296
 hash:x.b.hash<4294967296
 FB:x.b.FB<18446744073709551616
 typ:x.b.typ<65536
 len:x.d.length=if x.b.tag=1 then x.b.size else x.b.label
 fit:hlen x.b.tag+x.d.length<=ae x.b.Ft
theorem dy{b:Bk}(h:bn b=true):b.tag<=2/\b.size<=480/\aW b=false/\(if b.tag=0 then b.Ft=0/\b.used=0/\b.label=0 else if b.tag=1 then 1<=b.Ft/\b.Ft<=9/\b.label=0 else 1<=b.Ft/\b.Ft<=9/\b.used=0/\1<=b.label/\b.label<=63):=by
 unfold bn at h;simp only [Bool.and_eq_true,Bool.not_eq_true']at h;obtain⟨⟨⟨h1,h2⟩,h3⟩,h4⟩:=h;refine⟨Nat.le_of_ble_eq_true h1,Nat.le_of_ble_eq_true h2,h3,?_⟩;by_cases e:b.tag=0
 ·rw[if_pos e]at h4⊢;simp only [Bool.and_eq_true]at h4;exact⟨Nat.eq_of_beq_eq_true h4.1.1,Nat.eq_of_beq_eq_true h4.1.2,Nat.eq_of_beq_eq_true h4.2⟩
 ·rw[if_neg e]at h4⊢;by_cases e1:b.tag=1
  ·rw[if_pos e1]at h4⊢;simp only [Bool.and_eq_true]at h4;exact⟨Nat.le_of_ble_eq_true h4.1.1,Nat.le_of_ble_eq_true h4.1.2,Nat.eq_of_beq_eq_true h4.2⟩
  ·rw[if_neg e1]at h4⊢;simp only [Bool.and_eq_true]at h4;exact⟨Nat.le_of_ble_eq_true h4.1.1.1.1,Nat.le_of_ble_eq_true h4.1.1.1.2,Nat.eq_of_beq_eq_true h4.1.1.2,Nat.le_of_ble_eq_true h4.1.2,Nat.le_of_ble_eq_true h4.2⟩
theorem AJ{b:Bk}(h:aW b=false){f:Nat}(hf:f<12)(hw:(FO b.tag f).2=0):(aT b).getD f 0=0:=by
 unfold aW at h;rw[List.any_eq_false]at h;have:=h f (List.mem_range.2 hf);simp only [hw,Bool.and_eq_true,Bool.not_eq_true',not_and]at this;by_cases e:(aT b).getD f 0=0
 ·exact e
 ·exact absurd (this (Tr.I0 e)) (by decide)
theorem gD{b:Bk}(hr:bn b=true)(ht:b.tag=1\/b.tag=2)(hu:b.used<=1){f:Nat}(hf:f<12)(hw:(FO b.tag f).2≠0):∀j,j<(FO b.tag f).2->dP b ((FO b.tag f).1+j)=aJ ((aT b).getD f 0) j:=by
 obtain⟨r1,r2,r3,r4⟩:=dy hr;have hc:b.Ft<256/\b.label<256:=by
  rcases ht with e|e<;>rw[e]at r4<;>simp at r4<;>omega
 have b0:∀v,v<256->aJ v 0=v:=λv hv=>by unfold aJ;simp;omega
 have ft:b.tag<256:=by omega
 have fu:b.used<256:=by omega
 intro j hj;rcases ht with e|e<;>rw[e]at hw hj⊢
 all_goals
  rcases(show f=0\/f=1\/f=2\/f=3\/f=4\/f=5\/f=6\/f=7\/f=8\/f=9\/f=10\/f=11 by omega)with rfl|rfl|rfl|rfl|rfl|rfl|rfl|rfl|rfl|rfl|rfl|rfl
  all_goals first
   |exact absurd rfl hw
   |(have hj1:j<1:=hj
     obtain rfl:j=0:=by omega
     unfold dP;simp[aT,FO,Nw,b0,ft,fu,hc.1,hc.2]
     done)
   |(simp only [show FO 1 4=(4,4)from rfl,show FO 1 5=(8,4)from rfl,show FO 1 6=(12,4)from rfl,show FO 1 7=(16,8)from rfl,show FO 1 8=(24,2)from rfl,show FO 1 9=(26,2)from rfl,show FO 1 10=(28,4)from rfl,show FO 2 4=(4,4)from rfl,show FO 2 10=(12,4)from rfl,show FO 2 11=(8,4)from rfl]at hj⊢
     unfold dP
     repeat(first|rw[if_pos (by omega)]|rw[if_neg (by omega)])
     rw[Nat.add_sub_cancel_left];rfl)
end Go.FC
namespace Go.FC
structure Wf(S:Fw):Prop where
 nodup:∀s,s<S.Fq->(S.sl s).free.Nodup
 Nr:∀s,s<S.Fq->∀a∈(S.sl s).free,∃i,S.At a s i
 lt:∀s,s<S.Fq->(S.sl s).Ft≠0->(S.sl s).free.length<ai (S.sl s).Ft
 ob:∀a x,S.ob a=some x->∃s i,S.At a s i/\a∉(S.sl s).free/\x.b.Ft=(S.sl s).Ft/\cX x
theorem OO:∀t,t=1\/t=2->∀f,f<12->(FO t f).2≠0->(FO t f).1+(FO t f).2<=hlen t/\(FO t f).1%(FO t f).2=0/\((FO t f).2=1\/(FO t f).2=2\/(FO t f).2=4\/(FO t f).2=8):=by
 intro t ht;rcases ht with rfl|rfl<;>decide
theorem cX.lt{x:Ob}(h:cX x){f:Nat}(hf:f<12)(hw:(FO x.b.tag f).2≠0):(aT x.b).getD f 0<256^(FO x.b.tag f).2:=by
 obtain⟨r1,r2,r3,r4⟩:=dy h.right;have hc:x.b.Ft<256/\x.b.label<256:=by
  rcases h.tag with e|e<;>rw[e]at r4<;>simp at r4<;>omega
 have hu:=h.used;have h4:=h.name;have h5:=h.next;have h6:=h.prev;have h7:=h.FB;have h8:=h.typ;have Ta:=h.hash;have h11:=h.refs;rcases(show f=0\/f=1\/f=2\/f=3\/f=4\/f=5\/f=6\/f=7\/f=8\/f=9\/f=10\/f=11 by omega)with rfl|rfl|rfl|rfl|rfl|rfl|rfl|rfl|rfl|rfl|rfl|rfl
 all_goals
  rcases h.tag with e|e
  all_goals rw[e]at hw⊢
  all_goals first
   |exact absurd rfl hw
   |(simp[aT,FO,Nw];omega)
theorem cX.hl{x:Ob}(h:cX x):hlen x.b.tag<=ae x.b.Ft:=by have:=h.fit;omega
theorem vG(b:Bk):jd (aT b)=b:=rfl
section
variable{S:Fw}{X:Hp}{m:Mm}
theorem Fw.LN{s a o:Nat}{x:Ob}(hf:a∉(S.sl s).free)(hx:S.ob a=some x):S.bb s a o=bz x o:=by unfold Fw.bb;rw[if_neg hf,hx]
theorem Fw.PW{s a o:Nat}(hf:a∉(S.sl s).free)(hx:S.ob a=none):S.bb s a o=0:=by unfold Fw.bb;rw[if_neg hf,hx]
theorem Fw.GZ{s a:Nat}(hf:a∉(S.sl s).free):S.kk s a=5:=by unfold Fw.kk;rw[if_neg hf]
theorem Fw.KH{s a:Nat}(hf:a∈(S.sl s).free):S.kk s a=6:=by unfold Fw.kk;rw[if_pos hf]
theorem eK{x:Ob}{o:Nat}(h:o<hlen x.b.tag):bz x o=dP x.b o:=by unfold bz;rw[if_pos h]
theorem gE(h:aQ S X)(hm:Is X.lo m)(w:Wf S){a:Nat}{x:Ob}(hx:S.ob a=some x){f:Nat}(hf:f<12):S9 a x.b.tag 5 f m=some ((aT x.b).getD f 0):=by
 obtain⟨s,i,ha,GF,GI,F4⟩:=w.ob a x hx;unfold S9;by_cases hw:(FO x.b.tag f).2=0
 ·rw[if_pos hw,AJ (dy F4.right).2.2.1 hf hw]
 ·rw[if_neg hw];obtain⟨g1,g2,g3⟩:=OO _ F4.tag f hf hw;have hl:=F4.hl;have:=h.ld hm ha (o:=(FO x.b.tag f).1) (w:=(FO x.b.tag f).2) (v:=(aT x.b).getD f 0) (by rw[<-GI];omega) g3 g2 (F4.lt hf hw) λj hj=>by
   rw[Fw.LN GF hx,eK (by omega),gD F4.right F4.tag F4.used hf hw j hj]
  rw[Fw.GZ GF]at this;exact this
theorem pV(h:aQ S X)(hm:Is X.lo m)(w:Wf S){a:Nat}{x:Ob}(hx:S.ob a=some x):dB a m=some (x.b.tag,5):=by
 obtain⟨s,i,ha,GF,GI,F4⟩:=w.ob a x hx;obtain⟨b1,b2,b3,b4,b5,b6,b7,b8,b9⟩:=h.MV hm ha;unfold dB;have e:m.FH a 4=5:=by rw[h.FH hm ha (by decide) (by omega),Fw.GZ GF]
 have e2:=gE h hm w hx (f:=0) (by decide);rw[if_pos e];unfold S9 at e2;have e3:FO x.b.tag 0=(0,1):=by rcases F4.tag with e|e<;>rw[e]<;>rfl
 rw[e3,if_neg (by decide)]at e2;rw[show m.ld a 1 5=some x.b.tag from e2];rfl
theorem CP(h:aQ S X)(hm:Is X.lo m)(w:Wf S){a:Nat}{x:Ob}(hx:S.ob a=some x){f:Nat}(hf:f<12):im a f m=some ((aT x.b).getD f 0):=by
 unfold im;rw[pV h hm w hx,Fj];exact gE h hm w hx hf
theorem tC(h:aQ S X)(hm:Is X.lo m)(w:Wf S){a:Nat}{x:Ob}(hx:S.ob a=some x):da a m=some (x.b,0):=by
 obtain⟨s,i,ha,GF,GI,F4⟩:=w.ob a x hx;have hr:tQ a x.b.tag 5 m 0 12=some (aT x.b):=by
  simp only [tQ,gE h hm w hx (f:=0) (by decide),gE h hm w hx (f:=1) (by decide),gE h hm w hx (f:=2) (by decide),gE h hm w hx (f:=3) (by decide),gE h hm w hx (f:=4) (by decide),gE h hm w hx (f:=5) (by decide),
   gE h hm w hx (f:=6) (by decide),gE h hm w hx (f:=7) (by decide),gE h hm w hx (f:=8) (by decide),gE h hm w hx (f:=9) (by decide),gE h hm w hx (f:=10) (by decide),gE h hm w hx (f:=11) (by decide),Fj,Nat.zero_add,Nat.reduceAdd]
  rfl
 have ht:¬2<x.b.tag:=by rcases F4.tag with e|e<;>omega
 unfold da;rw[pV h hm w hx,Fj];simp only [ne_eq,not_true_eq_false,false_and,if_false,ht];rw[hr,Fj,vG];rw[if_neg];rintro(e|e|e)
 ·exact e rfl
 ·have:=F4.used;omega
 ·rw[F4.right]at e;cases e
theorem EM(h:aQ S X)(hm:Is X.lo m)(w:Wf S){a:Nat}{x:Ob}(hx:S.ob a=some x):eD x.b.tag a m=some x.b:=by
 unfold eD;rw[tC h hm w hx,Fj,if_pos ⟨rfl,rfl⟩]
theorem CQ(h:aQ S X)(hm:Is X.lo m){a s i:Nat}(ha:S.At a s i)(hb:∀o,o<4->S.bb s a o=0):dB a m=some (0,S.kk s a):=by
 obtain⟨b1,b2,b3,b4,b5,b6,b7,b8,b9⟩:=h.MV hm ha;unfold dB;have e:m.FH a 4=S.kk s a:=h.FH hm ha (by decide) (by omega);by_cases e5:S.kk s a=5
 ·rw[if_pos (by rw[e,e5]),e5];have:=h.ld hm ha (o:=0) (w:=1) (v:=0) (by omega) (.inl rfl) rfl (by decide) λj hj=>by
   rw[hb _ (by omega)];unfold aJ;simp
  rw[e5]at this;rw[show m.ld a 1 5=some 0 from this];rfl
 ·rw[if_neg (by rw[e];exact e5),e]
theorem AK(h:aQ S X)(hm:Is X.lo m):da 0 m=some ({},30):=by
 have hz:=h.Hk hm;have e:m.FH 0 4=1:=by
  refine Is.Lt (by decide) (by rw[hm.TD];omega) λg g1 g2=> ?_;rw[hm.fix g (by omega)];unfold tB;rw[if_pos (by omega)]
 unfold da dB;rw[if_neg (by rw[e];decide),e,Fj,if_pos (by decide)]
theorem aQ.OP(h:aQ S X){a s i:Nat}(ha:S.At a s i)(hf:a∉(S.sl s).free)(y:Option Ob)(TE:Nat->Nat)
  (h1:∀o,o<ae (S.sl s).Ft->TE (a+o)=match y with|none=>0|some x=>bz x o) (h2:∀x,x<a\/a+ae (S.sl s).Ft<=x->TE x=X.byte x):
  aQ {S with ob:=Fv S.ob a y} {X with byte:=TE}:=by
 have hs:=h.sl s ha.1;have GU:=ha.R4 hs.c9;refine⟨h.Fq,h.slots,h.root,h.slot,λt ht=> ?_⟩;have hk:=h.sl t ht;refine⟨hk.c9,hk.Ft,hk.live,hk.free,hk.ln,λhz r hr=>⟨?_,(hk.z hz r hr).2⟩,λj hj o ho=>⟨?_,(hk.b j hj o ho).2⟩,λhc r r1 r2=>⟨?_,(hk.p hc r r1 r2).2⟩⟩
 ·show TE (S.sa t+r)=0
  rw[h2,(hk.z hz r hr).1];have PU:t≠s:=λe=>by
   subst e;have:=ha.c hs.c9;have:(S.sl t).Ft=0:=hz;omega
  unfold Fw.sa at GU⊢;omega
 ·show TE (S.ba t j+o)=Fw.bb {S with ob:=Fv S.ob a y} t (S.ba t j) o
  have GG:S.At (S.ba t j) t j:=⟨ht,hj,rfl⟩;by_cases e:S.ba t j=a
  ·rw[e]at GG⊢;obtain⟨rfl,rfl⟩:=ha.inj GG hs.c9 hk.c9;have O1:o<ae (S.sl s).Ft:=ho;rw[h1 o O1];unfold Fw.bb;show _=if a∈(S.sl s).free then _ else match Fv S.ob a y a with|none=>0|some x=>bz x o
   rw[if_neg hf,ak]
  ·have hap:=ha.apart GG hs.c9 hk.c9 (λq=>e q.symm);have O1:o<ae (S.sl t).Ft:=ho;rw[h2 _ (by omega),(hk.b j hj o ho).1];unfold Fw.bb;show _=if S.ba t j∈(S.sl t).free then cN (Ig (S.sl t).free (S.ba t j)) o else match Fv S.ob a y (S.ba t j)with|none=>0|some x=>bz x o
   rw[af _ _ e]
   try rfl
 ·show TE (S.sa t+r)=0
  rw[h2,(hk.p hc r r1 r2).1];by_cases e:t=s
  ·subst e;have e2:=ha.2.2;unfold Fw.ba at e2;have h3:(i+1)*ae (S.sl t).Ft<=ai (S.sl t).Ft*ae (S.sl t).Ft:=Nat.mul_le_mul_right _ ha.2.1;rw[Nat.add_mul,Nat.one_mul,Nat.mul_comm (ai _)]at h3;have r1':ae (S.sl t).Ft*ai (S.sl t).Ft<=r:=r1;omega
  ·unfold Fw.sa at GU⊢;omega
def fj(t:Nat):Nat->Nat->Nat->Bool
 |_,0,_=>false
 |f,n+1,o=>(decide ((FO t f).1<=o)&&decide (o<(FO t f).1+(FO t f).2))||fj t (f+1) n o
theorem yG{t:Nat}(ht:t=1\/t=2):∀(n f o:Nat),f+n<=12->fj t f n o=true->o<hlen t
 |0,f,o,_,h=>by cases h
 |n+1,f,o,hn,h=>by
  rw[fj,Bool.or_eq_true,Bool.and_eq_true,decide_eq_true_eq,decide_eq_true_eq]at h;rcases h with h|h
  ·have:=OO t ht f (by omega) (by omega);omega
  ·exact yG ht n (f+1) o (by omega) h
theorem pW{t:Nat}(ht:t=1\/t=2){o:Nat}:fj t 0 12 o=decide (o<hlen t):=by
 by_cases h:o<hlen t
 ·rw[decide_eq_true h];have h1:∀o,o<32->fj 1 0 12 o=true:=by decide
  have h2:∀o,o<16->fj 2 0 12 o=true:=by decide
  rcases ht with rfl|rfl
  ·exact h1 o h
  ·exact h2 o h
 ·rw[decide_eq_false h];cases e:fj t 0 12 o
  ·rfl
  ·exact absurd (yG ht 12 0 o (by decide) e) h
theorem pX{a:Nat}{x:Ob}(F4:cX x)(Jp:a%16=0):∀(n f:Nat) (X:Hp) (m:Mm),f+n<=12->Is X.lo m->X.lo.base<=a->a+ae x.b.Ft<=X.lo.size->(∀g,a/4<=g->g<(a+ae x.b.Ft)/4->X.kind g=5)->
  ∃m',eC a 5 x.b f n m=some m'/\Is {X with byte:=λq=>if a<=q/\fj x.b.tag f n (q-a)=true then dP x.b (q-a)else X.byte q}.lo m'
 |0,f,X,m,_,hm,_,_,_=>⟨m,rfl,hm.congr rfl rfl (λ_ _=>rfl) (λ_ _ _ _=>rfl) (λ_ _=>rfl) (λq _ _=>by
   show X.byte q=if a<=q/\fj x.b.tag f 0 (q-a)=true then _ else X.byte q
   rw[if_neg (λe=>by cases e.2)]) λ_ _ _=>rfl⟩
 |n+1,f,X,m,hn,hm,hb,hs,hk=>by
  have hl:=F4.hl;by_cases hw:(FO x.b.tag f).2=0
  ·obtain⟨m',e,Ym⟩:=pX F4 Jp n (f+1) X m (by omega) hm hb hs hk;refine⟨m',by rw[eC,if_pos hw,Fj,e],Ym.congr rfl rfl (λ_ _=>rfl) (λ_ _ _ _=>rfl) (λ_ _=>rfl) (λq _ _=> ?_) λ_ _ _=>rfl⟩;show(if a<=q/\fj x.b.tag (f+1) n (q-a)=true then dP x.b (q-a)else X.byte q)=if a<=q/\fj x.b.tag f (n+1) (q-a)=true then dP x.b (q-a)else X.byte q
   have e2:fj x.b.tag f (n+1) (q-a)=fj x.b.tag (f+1) n (q-a):=by
    rw[fj,decide_eq_false (p:=q-a<(FO x.b.tag f).1+(FO x.b.tag f).2/\(FO x.b.tag f).1<=q-a) (by omega)|>λe=>(show(decide ((FO x.b.tag f).1<=q-a)&&decide (q-a<(FO x.b.tag f).1+(FO x.b.tag f).2))=false by
     rw[Bool.and_eq_false_iff,decide_eq_false_iff_not,decide_eq_false_iff_not];omega),Bool.false_or]
   rw[e2]
  ·obtain⟨g1,g2,g3⟩:=OO _ F4.tag f (by omega) hw;obtain⟨m1,e1,h1⟩:=hm.stB (a:=a+(FO x.b.tag f).1) (w:=(FO x.b.tag f).2) (k:=5) (v:=(aT x.b).getD f 0) g3 (by rcases g3 with e|e|e|e<;>rw[e]at g2⊢<;>omega) (by decide) (by omega) (by omega)
    (λg q1 q2=>hk g (by omega) (by
     have:ae x.b.Ft%16=0:=by
      obtain⟨r1,r2,r3,r4⟩:=dy F4.right;refine(Nq _ ?_ ?_).2.1
      ·rcases F4.tag with e|e<;>rw[e]at r4<;>simp at r4<;>omega
      ·rcases F4.tag with e|e<;>rw[e]at r4<;>simp at r4<;>omega
     omega)) (F4.lt (by omega) hw)
   obtain⟨m',e,Ym⟩:=pX F4 Jp n (f+1) {X with byte:=λq=>if a+(FO x.b.tag f).1<=q/\q<a+(FO x.b.tag f).1+(FO x.b.tag f).2 then aJ ((aT x.b).getD f 0) (q-(a+(FO x.b.tag f).1))else X.byte q} m1 (by omega) h1 hb hs hk;refine⟨m',by rw[eC,if_neg hw,e1,Fj,e],Ym.congr rfl rfl (λ_ _=>rfl) (λ_ _ _ _=>rfl) (λ_ _=>rfl) (λq _ _=> ?_) λ_ _ _=>rfl⟩;show(if a<=q/\fj x.b.tag (f+1) n (q-a)=true then dP x.b (q-a)else if a+(FO x.b.tag f).1<=q/\q<a+(FO x.b.tag f).1+(FO x.b.tag f).2 then aJ ((aT x.b).getD f 0) (q-(a+(FO x.b.tag f).1))else X.byte q)=if a<=q/\fj x.b.tag f (n+1) (q-a)=true then dP x.b (q-a)else X.byte q
   by_cases c1:a<=q/\fj x.b.tag (f+1) n (q-a)=true
   ·rw[if_pos c1,if_pos ⟨c1.1,by rw[fj,c1.2,Bool.or_true]⟩]
   ·rw[if_neg c1];by_cases c2:a+(FO x.b.tag f).1<=q/\q<a+(FO x.b.tag f).1+(FO x.b.tag f).2
    ·have h9:=gD F4.right F4.tag F4.used (f:=f) (by omega) hw (q-(a+(FO x.b.tag f).1)) (by omega);rw[if_pos c2,<-h9,if_pos ⟨by omega,by rw[fj,decide_eq_true (by omega),decide_eq_true (by omega)];rfl⟩];congr 1;omega
    ·rw[if_neg c2,if_neg];rintro⟨c3,c4⟩;rw[fj,Bool.or_eq_true,Bool.and_eq_true,decide_eq_true_eq,decide_eq_true_eq]at c4;rcases c4 with c4|c4
     ·omega
     ·exact c1 ⟨c3,c4⟩
theorem yH(h:aQ S X)(hm:Is X.lo m){a s i:Nat}(ha:S.At a s i)(hf:a∉(S.sl s).free){x:Ob}(F4:cX x)(hc:x.b.Ft=(S.sl s).Ft)
  (hd:∀o,hlen x.b.tag<=o->o<ae (S.sl s).Ft->S.bb s a o=bz x o):∃m',gk a x.b m=some m'/\NM {S with ob:=Fv S.ob a (some x)} m':=by
 obtain⟨b1,b2,b3,b4,b5,b6,b7,b8,b9⟩:=h.MV hm ha;have hk:∀g,a/4<=g->g<(a+ae x.b.Ft)/4->X.kind g=5:=λg g1 g2=>by
  rw[h.kd hm ha (o:=0) (n:=ae (S.sl s).Ft) (by omega) g (by simpa using g1) (by rw[hc]at g2;simp;omega),Fw.GZ hf]
 obtain⟨m',e,Ym⟩:=pX F4 b5 12 0 X m (by decide) hm b3 (by rw[hc];exact b4) hk;refine⟨m',?_,_,Ym,h.OP ha hf (some x) _ (λo ho=> ?_) λq hq=> ?_⟩
 ·have ht:x.b.tag≠0:=by rcases F4.tag with e|e<;>omega
  rw[gk,if_pos F4.right,if_neg ht,e]
 ·show(if a<=a+o/\fj x.b.tag 0 12 (a+o-a)=true then dP x.b (a+o-a)else X.byte (a+o))=bz x o;rw[Nat.add_sub_cancel_left,pW F4.tag];by_cases c:o<hlen x.b.tag
  ·rw[if_pos ⟨by omega,decide_eq_true c⟩,eK c]
  ·rw[if_neg (λe=>c (by simpa using e.2)),h.JP ha ho,hd o (by omega) ho]
 ·show(if a<=q/\fj x.b.tag 0 12 (q-a)=true then dP x.b (q-a)else X.byte q)=X.byte q;rw[pW F4.tag,if_neg];rintro⟨c1,c2⟩;have c3:q-a<hlen x.b.tag:=by simpa using c2
  have hl:=F4.hl;rw[hc]at hl;omega
theorem CR(h:aQ S X)(hm:Is X.lo m)(w:Wf S){a:Nat}{x:Ob}(hx:S.ob a=some x){f v:Nat}(hf:f<12)(hw:(FO x.b.tag f).2≠0){b':Bk}(ht:b'.tag=x.b.tag)(hc:b'.Ft=x.b.Ft)(OQ:cX {x with b:=b'})
  (hv:(aT b').getD f 0=v) (hn:∀g,g<12->g≠f->(aT b').getD g 0=(aT x.b).getD g 0):∃m',bE a f v m=some m'/\NM {S with ob:=Fv S.ob a (some {x with b:=b'})} m':=by
 obtain⟨s,i,ha,GF,GI,F4⟩:=w.ob a x hx;obtain⟨b1,b2,b3,b4,b5,b6,b7,b8,b9⟩:=h.MV hm ha;obtain⟨g1,g2,g3⟩:=OO _ F4.tag f hf hw;have hl:=F4.hl;rw[GI]at hl;have Pl:v<256^(FO x.b.tag f).2:=by
  have:=OQ.lt (f:=f) hf (by show(FO b'.tag f).2≠0;rw[ht];exact hw);rw[<-hv];have e:(FO ({x with b:=b'}:Ob).b.tag f).2=(FO x.b.tag f).2:=by show(FO b'.tag f).2=_;rw[ht]
  rw[e]at this;exact this
 obtain⟨m1,e1,h1⟩:=hm.stB (a:=a+(FO x.b.tag f).1) (w:=(FO x.b.tag f).2) (k:=5) (v:=v) g3 (by rcases g3 with e|e|e|e<;>rw[e]at g2⊢<;>omega) (by decide) (by omega) (by omega)
  (λg q1 q2=>by rw[<-Fw.GZ GF];exact h.kd hm ha (o:=(FO x.b.tag f).1) (n:=(FO x.b.tag f).2) (by omega) g q1 q2) Pl
 refine⟨m1,?_, {X with byte:=λq=>if a+(FO x.b.tag f).1<=q/\q<a+(FO x.b.tag f).1+(FO x.b.tag f).2 then aJ v (q-(a+(FO x.b.tag f).1))else X.byte q},h1,h.OP ha GF _ _ (λo ho=> ?_) λq hq=> ?_⟩
 ·unfold bE;rw[pV h hm w hx,Fj,if_neg hw,e1]
 ·show(if a+(FO x.b.tag f).1<=a+o/\a+o<a+(FO x.b.tag f).1+(FO x.b.tag f).2 then aJ v (a+o-(a+(FO x.b.tag f).1))else X.byte (a+o))=bz {x with b:=b'} o;by_cases c:o<hlen x.b.tag
  ·have e2:bz {x with b:=b'} o=dP b' o:=eK (x:= {x with b:=b'}) (by show o<hlen b'.tag;rw[ht];exact c);rw[e2];have hcv:=(pW F4.tag (o:=o)).trans (decide_eq_true c);have hcov:∃g,g<12/\(FO x.b.tag g).1<=o/\o<(FO x.b.tag g).1+(FO x.b.tag g).2:=by
    have:∀(n f:Nat),f+n<=12->fj x.b.tag f n o=true->∃g,g<12/\(FO x.b.tag g).1<=o/\o<(FO x.b.tag g).1+(FO x.b.tag g).2:=by
     intro n
     induction n with
     |zero=>intro f _ h;cases h
     |succ n ih=>
      intro f hf h;rw[fj,Bool.or_eq_true,Bool.and_eq_true,decide_eq_true_eq,decide_eq_true_eq]at h;rcases h with h|h
      ·exact⟨f,by omega,h⟩
      ·exact ih (f+1) (by omega) h
    exact this 12 0 (by decide) hcv
   obtain⟨g,gl,ga,gb⟩:=hcov;have gw:(FO x.b.tag g).2≠0:=by omega
   have FN:dP b' o=aJ ((aT b').getD g 0) (o-(FO x.b.tag g).1):=by
    have:=gD (b:=b') OQ.right OQ.tag OQ.used gl (by rw[ht];exact gw) (o-(FO x.b.tag g).1) (by rw[ht];omega);rw[ht,show(FO x.b.tag g).1+(o-(FO x.b.tag g).1)=o by omega]at this;exact this
   have FM:dP x.b o=aJ ((aT x.b).getD g 0) (o-(FO x.b.tag g).1):=by
    have:=gD (b:=x.b) F4.right F4.tag F4.used gl gw (o-(FO x.b.tag g).1) (by omega);rw[show(FO x.b.tag g).1+(o-(FO x.b.tag g).1)=o by omega]at this;exact this
   by_cases e:g=f
   ·subst e;rw[if_pos (by omega),FN,hv,show a+o-(a+(FO x.b.tag g).1)=o-(FO x.b.tag g).1 by omega]
   ·have hdis:∀t,t=1\/t=2->∀f,f<12->∀g,g<12->(g=f\/(FO t f).2=0\/(FO t g).2=0\/(FO t g).1+(FO t g).2<=(FO t f).1\/(FO t f).1+(FO t f).2<=(FO t g).1):=by
     intro t ht;rcases ht with rfl|rfl<;>decide
    have:=hdis _ F4.tag f hf g gl;rw[if_neg (by omega),h.JP ha ho,Fw.LN GF hx,eK c,FM,FN,hn g gl e]
  ·rw[if_neg (by omega),h.JP ha ho,Fw.LN GF hx];unfold bz;show(if o<hlen x.b.tag then _ else _)=if o<hlen b'.tag then _ else(x.d.getD (o-hlen b'.tag) 0).toNat
   rw[ht,if_neg c,if_neg c]
 ·show(if a+(FO x.b.tag f).1<=q/\q<a+(FO x.b.tag f).1+(FO x.b.tag f).2 then aJ v (q-(a+(FO x.b.tag f).1))else X.byte q)=X.byte q;rw[if_neg (by omega)]
theorem D5(h:aQ S X)(hm:Is X.lo m)(w:Wf S){a:Nat}{x:Ob}(hx:S.ob a=some x)(h1:1<=x.d.length):dC (a+hlen x.b.tag) x.d.length 5 m=some x.d:=by
 obtain⟨s,i,ha,GF,GI,F4⟩:=w.ob a x hx;obtain⟨b1,b2,b3,b4,b5,b6,b7,b8,b9⟩:=h.MV hm ha;have hft:=F4.fit;rw[GI]at hft;refine hm.R3 h1 rfl (by decide) (by omega) (by omega) (λg g1 g2=>by rw[<-Fw.GZ GF];exact h.kd hm ha (o:=hlen x.b.tag) (n:=x.d.length) (by omega) g g1 g2) λj hj=> ?_;show X.byte (a+hlen x.b.tag+j)=_;rw[Nat.add_assoc,h.JP ha (by omega),Fw.LN GF hx];unfold bz;rw[if_neg (by omega),Nat.add_sub_cancel_left]
theorem KF(h:aQ S X)(hm:Is X.lo m)(w:Wf S){a:Nat}{x:Ob}(hx:S.ob a=some x){l:List UInt8}(h1:1<=l.length)(hl:l.length=x.d.length):∃m',cV (a+hlen x.b.tag) 5 l m=some m'/\NM {S with ob:=Fv S.ob a (some {x with d:=l})} m':=by
 obtain⟨s,i,ha,GF,GI,F4⟩:=w.ob a x hx;obtain⟨b1,b2,b3,b4,b5,b6,b7,b8,b9⟩:=h.MV hm ha;have hft:=F4.fit;rw[GI]at hft;obtain⟨m1,e1,IZ⟩:=hm.KF (a:=a+hlen x.b.tag) (k:=5) (l:=l) h1 (by decide) (by omega) (by omega) (λg g1 g2=>by rw[<-Fw.GZ GF];exact h.kd hm ha (o:=hlen x.b.tag) (n:=l.length) (by omega) g g1 g2);refine⟨m1,e1, {X with byte:=λq=>if a+hlen x.b.tag<=q/\q<a+hlen x.b.tag+l.length then(l.getD (q-(a+hlen x.b.tag)) 0).toNat else X.byte q},IZ,h.OP ha GF _ _ (λo ho=> ?_) λq hq=> ?_⟩
 ·show(if a+hlen x.b.tag<=a+o/\a+o<a+hlen x.b.tag+l.length then(l.getD (a+o-(a+hlen x.b.tag)) 0).toNat else X.byte (a+o))=bz {x with d:=l} o;unfold bz;show _=if o<hlen x.b.tag then dP x.b o else(l.getD (o-hlen x.b.tag) 0).toNat
  by_cases c:o<hlen x.b.tag
  ·rw[if_neg (by omega),if_pos c,h.JP ha ho,Fw.LN GF hx,eK c]
  ·rw[if_neg c];by_cases c2:o<hlen x.b.tag+l.length
   ·rw[if_pos (by omega),show a+o-(a+hlen x.b.tag)=o-hlen x.b.tag by omega]
   ·rw[if_neg (by omega),h.JP ha ho,Fw.LN GF hx];unfold bz;rw[if_neg c,List.getD_eq_getElem?_getD,List.getD_eq_getElem?_getD,List.getElem?_eq_none (by omega),List.getElem?_eq_none (by omega)]
 ·show(if a+hlen x.b.tag<=q/\q<a+hlen x.b.tag+l.length then(l.getD (q-(a+hlen x.b.tag)) 0).toNat else X.byte q)=X.byte q;rw[if_neg (by omega)]
def kF(x:Ob)(n:Nat):List UInt8:=(List.range n).map λo=>UInt8.ofNat (bz x o)
theorem eQ{p:Prop} [Decidable p]{a b n:Nat}(h1:a<n)(h2:b<n):(if p then a else b)<n:=by
 split
 ·exact h1
 ·exact h2
theorem CS{b:Bk}(hr:bn b=true)(ht:b.tag=1\/b.tag=2)(hu:b.used<=1)(o:Nat):dP b o<256:=by
 obtain⟨r1,r2,r3,r4⟩:=dy hr;have hc:b.Ft<256/\b.label<256:=by
  rcases ht with e|e<;>rw[e]at r4<;>simp at r4<;>omega
 have hb:∀v i,aJ v i<256:=λv i=>by unfold aJ;omega
 have t1:b.tag<256:=by omega
 have t2:b.used<256:=by omega
 unfold dP;refine eQ t1 (eQ hc.1 (eQ t2 (eQ hc.2 (eQ (hb _ _) (eQ ?_ ?_)))))
 ·exact eQ (hb _ _) (eQ (hb _ _) (eQ (hb _ _) (eQ (hb _ _) (eQ (hb _ _) (hb _ _)))))
 ·exact eQ (hb _ _) (hb _ _)
theorem AL{x:Ob}(h:cX x)(o:Nat):bz x o<256:=by
 unfold bz;split
 ·exact CS h.right h.tag h.used o
 ·exact UInt8.toNat_lt _
theorem vH{x:Ob}(hx:cX x){n o:Nat}(h:o<n):((kF x n).getD o 0).toNat=bz x o:=by
 unfold kF;rw[List.getD_eq_getElem?_getD,List.getElem?_map,List.getElem?_range h];have:=AL hx o;show(UInt8.ofNat (bz x o)).toNat=_;rw[UInt8.toNat_ofNat'];omega
theorem CT(h:aQ S X)(hm:Is X.lo m)(w:Wf S){a:Nat}{x:Ob}(hx:S.ob a=some x):dC a (ae x.b.Ft) 5 m=some (kF x (ae x.b.Ft)):=by
 obtain⟨s,i,ha,GF,GI,F4⟩:=w.ob a x hx;obtain⟨b1,b2,b3,b4,b5,b6,b7,b8,b9⟩:=h.MV hm ha;rw[GI];refine hm.R3 (by omega) (by unfold kF;simp) (by decide) (by omega) (by omega) (λg g1 g2=>by rw[<-Fw.GZ GF];exact h.kd hm ha (o:=0) (n:=ae (S.sl s).Ft) (by omega) g g1 g2) λj hj=> ?_;show X.byte (a+j)=_;rw[h.JP ha hj,Fw.LN GF hx,vH F4 hj]
theorem D6(h:aQ S X)(hm:Is X.lo m){a s i:Nat}(ha:S.At a s i)(hf:a∉(S.sl s).free){x:Ob}(F4:cX x)(hc:x.b.Ft=(S.sl s).Ft):∃m',cV a 5 (kF x (ae x.b.Ft)) m=some m'/\NM {S with ob:=Fv S.ob a (some x)} m':=by
 obtain⟨b1,b2,b3,b4,b5,b6,b7,b8,b9⟩:=h.MV hm ha;have hl:(kF x (ae x.b.Ft)).length=ae (S.sl s).Ft:=by unfold kF;simp[hc]
 obtain⟨m1,e1,IZ⟩:=hm.KF (a:=a) (k:=5) (l:=kF x (ae x.b.Ft)) (by omega) (by decide) (by omega) (by omega) (λg g1 g2=>by rw[<-Fw.GZ hf];exact h.kd hm ha (o:=0) (n:=ae (S.sl s).Ft) (by omega) g (by simpa using g1) (by rw[hl]at g2;simpa using g2));refine⟨m1,e1, {X with byte:=λq=>if a<=q/\q<a+(kF x (ae x.b.Ft)).length then((kF x (ae x.b.Ft)).getD (q-a) 0).toNat else X.byte q},IZ,h.OP ha hf _ _ (λo ho=> ?_) λq hq=> ?_⟩
 ·show(if a<=a+o/\a+o<a+(kF x (ae x.b.Ft)).length then((kF x (ae x.b.Ft)).getD (a+o-a) 0).toNat else X.byte (a+o))=bz x o;rw[if_pos (by omega),Nat.add_sub_cancel_left,vH F4 (by rw[hc];exact ho)]
 ·show(if a<=q/\q<a+(kF x (ae x.b.Ft)).length then((kF x (ae x.b.Ft)).getD (q-a) 0).toNat else X.byte q)=X.byte q;rw[if_neg (by omega)]
theorem vI(h:aQ S X)(hm:Is X.lo m){a s i:Nat}(ha:S.At a s i):je a m=some (s,a):=by
 obtain⟨b1,b2,b3,b4,b5,b6,b7,b8,b9⟩:=h.MV hm ha;have hs:=h.sl s ha.1;have GU:=ha.R4 hs.c9;have hz:=h.Hk hm;have e0:m.base=S.base:=hm.bsm.trans hz.2.2.2.2.2.2.1;have e1:m.size=S.size:=hm.TD.trans hz.2.2.2.2.2.2.2.1;have e2:m.Fq=S.Fq:=hm.Fq.trans h.Fq;have e3:m.slots=S.slots:=hm.slots.trans h.slots;have e4:ax m s=S.sa s:=by unfold ax Fw.sa Fw.base;rw[e2,e3]
 have e5:(a-S.base)/1024=s:=by unfold Fw.sa at GU;omega
 have ei:=ha.2.2;unfold Fw.ba at ei;have h3:(i+1)*ae (S.sl s).Ft<=ai (S.sl s).Ft*ae (S.sl s).Ft:=Nat.mul_le_mul_right _ ha.2.1;rw[Nat.add_mul,Nat.one_mul,Nat.mul_comm (ai _)]at h3;have Mw:(a-S.sa s)%ae (S.sl s).Ft=0:=by rw[ei,Nat.add_sub_cancel_left,Nat.mul_mod_left]
 have FR:=ha.1;have XZ:S.base<=S.sa s:=by unfold Fw.sa;omega
 unfold je;rw[e0,e1,if_pos (by omega),e5,kw hm (by rw[h.Fq];exact FR),Fj,e4];dsimp only;rw[hs.Ft,if_neg (by omega),Mw,Nat.sub_zero]
theorem CU(h:aQ S X)(hm:Is X.lo m){a s i:Nat}(ha:S.At a s i)(hf:a∉(S.sl s).free)(hn:S.ob a=none):fG a (S.sl s).Ft m=some ():=by
 obtain⟨b1,b2,b3,b4,b5,b6,b7,b8,b9⟩:=h.MV hm ha;have hs:=h.sl s ha.1;have hk:m.FH a 4=5:=by rw[h.FH hm ha (by decide) (by omega),Fw.GZ hf]
 have ME:=h.ld hm ha (o:=0) (w:=4) (v:=0) (by omega) (.inr (.inr (.inl rfl))) rfl (by decide) λj hj=>by
  rw[Fw.PW hf hn];unfold aJ;simp
 rw[Fw.GZ hf]at ME;unfold fG;rw[vI h hm ha,Fj];dsimp only;rw[if_neg (by rw[hk];simp),kw hm (by rw[h.Fq];exact ha.1),Fj];dsimp only;rw[hs.Ft,if_neg (λe=>e rfl),show m.ld a 4 5=some 0 from ME,Fj,if_pos rfl]
end
theorem pY{x a:Nat}{l:List Nat}(h:x≠a):Ig (x::l) a=Ig l a:=by rw[Ig,if_neg h]
theorem lE(a:Nat)(l:List Nat):Ig (a::l) a=l.headD 0:=by rw[Ig,if_pos rfl]
theorem dL(f:Nat->Nat):∀(n:Nat) (l:List Nat),l.Nodup->(∀a∈l,∃i,i<n/\a=f i)->l.length<=n
 |0,l,_,h=>by
  cases l with
  |nil=>exact Fm _
  |cons a l=>obtain⟨i,hi,_⟩:=h a (by simp);omega
 |n+1,l,hd,h=>by
  by_cases hm:f n∈l
  ·have h1:=dL f n (l.erase (f n)) (hd.erase _) λa ha=>by
    obtain⟨h2,h3⟩:=(hd.mem_erase_iff).1 ha;obtain⟨i,hi,e⟩:=h a h3;refine⟨i,?_,e⟩;by_cases q:i=n
    ·subst q;exact absurd e h2
    ·omega
   rw[List.length_erase_of_mem hm]at h1;omega
  ·have:=dL f n l hd λa ha=>by
    obtain⟨i,hi,e⟩:=h a ha;refine⟨i,?_,e⟩;by_cases q:i=n
    ·subst q;rw[e]at ha;exact absurd ha hm
    ·omega
   omega
theorem pZ(f:Nat->Nat)(n:Nat)(l:List Nat)(hd:l.Nodup)(h:∀a∈l,∃i,i<n/\a=f i)(hn:n<=l.length):∀i,i<n->f i∈l:=by
 intro i hi;by_cases hm:f i∈l
 ·exact hm
 ·exfalso;have:=dL (λj=>if j<i then f j else f (j+1)) (n-1) l hd λa ha=>by
   obtain⟨j,hj,e⟩:=h a ha;have hji:j≠i:=λq=>by subst q;rw[e]at ha;exact hm ha
   by_cases q:j<i
   ·exact⟨j,by omega,by rw[if_pos q];exact e⟩
   ·exact⟨j-1,by omega,by rw[if_neg (by omega),show j-1+1=j by omega];exact e⟩
  omega
def bL(a sz:Nat):Nat->Nat->List Nat
 |_,0=> []
 |i,n+1=>(a+i*sz)::bL a sz (i+1) n
theorem iO{a sz:Nat}:∀(n i x:Nat),x∈bL a sz i n↔∃j,i<=j/\j<i+n/\x=a+j*sz
 |0,i,x=>by simp[bL];intro j h1 h2;omega
 |n+1,i,x=>by
  rw[bL,List.mem_cons,iO n (i+1) x];constructor
  ·rintro(e|⟨j,h1,h2,e⟩)
   ·exact⟨i,Fm _,by omega,e⟩
   ·exact⟨j,by omega,by omega,e⟩
  ·rintro⟨j,h1,h2,e⟩;by_cases q:j=i
   ·subst q;exact .inl e
   ·exact .inr ⟨j,by omega,by omega,e⟩
theorem lF(a sz:Nat):∀n i,(bL a sz i n).length=n
 |0,_=>rfl
 |n+1,i=>by rw[bL,List.length_cons,lF a sz n]
theorem ic{a sz:Nat}(h:0<sz):∀n i,(bL a sz i n).Nodup
 |0,_=>List.nodup_nil
 |n+1,i=>by
  rw[bL,List.nodup_cons];refine⟨λhm=> ?_,ic h n (i+1)⟩;obtain⟨j,h1,h2,e⟩:=(iO n (i+1) _).1 hm;have h3:i*sz=j*sz:=by omega
  have:=Nat.eq_of_mul_eq_mul_right h h3;omega
theorem yI{a sz:Nat}(h:0<sz):∀n i j,i<=j->j<i+n->Ig (bL a sz i n) (a+j*sz)=if j+1<i+n then a+(j+1)*sz else 0
 |0,i,j,h1,h2=>by omega
 |n+1,i,j,h1,h2=>by
  rw[bL];by_cases q:j=i
  ·subst q;rw[lE];cases n with
   |zero=>rw[if_neg (by omega)];rfl
   |succ n=>rw[if_pos (by omega)];rfl
  ·rw[pY,yI h n (i+1) j (by omega) (by omega)]
   ·by_cases e:j+1<i+1+n
    ·rw[if_pos e,if_pos (by omega)]
    ·rw[if_neg e,if_neg (by omega)]
   ·intro e;have h3:i*sz=j*sz:=by omega
    exact q (Nat.eq_of_mul_eq_mul_right h h3).symm
section
variable{S S':Fw}{X X':Hp}{m:Mm}
theorem aQ.one(h:aQ S X){s:Nat}(hs:s<S.Fq)(e1:S'.Fq=S.Fq)(e2:S'.slots=S.slots)(x1:X'.Fq=X.Fq)(x2:X'.slots=X.slots)(hr:∀f,f<3\/13<=f->f<21->X'.root f=S'.root f)(IX:∀i,i<S.slots->X'.slot i=S'.slot i)
  (h1:∀t,t≠s->S'.sl t=S.sl t/\S'.out t=S.out t/\X'.Ft t=X.Ft t/\X'.live t=X.live t/\X'.free t=X.free t/\X'.ln t=X.ln t)
  (ho:∀a,a<S.sa s\/S.sa s+1024<=a->S'.ob a=S.ob a) (hb:∀x,x<S.sa s\/S.sa s+1024<=x->X'.byte x=X.byte x) (hk:∀g,g<S.sa s/4\/(S.sa s+1024)/4<=g->X'.kind g=X.kind g) (hn:nE S' X' s) (hz:S.base%16=0):aQ S' X':=by
 refine⟨x1.trans (h.Fq.trans e1.symm),x2.trans (h.slots.trans e2.symm),hr,by rw[e2];exact IX,λt ht=> ?_⟩;rw[e1]at ht;by_cases q:t=s
 ·rw[q];exact hn
 obtain⟨g1,g2,g3,g4,g5,g6⟩:=h1 t q;have IK:=h.sl t ht;have Qx:S'.sa t=S.sa t:=by unfold Fw.sa Fw.base;rw[e1,e2]
 have LZ:∀r,r<1024->S.sa t+r<S.sa s\/S.sa s+1024<=S.sa t+r:=λr hr=>by unfold Fw.sa;omega
 have U3:∀r,r<1024->(S.sa t+r)/4<S.sa s/4\/(S.sa s+1024)/4<=(S.sa t+r)/4:=λr hr=>by unfold Fw.sa;omega
 refine⟨by rw[g1];exact IK.c9,by rw[g1,g3];exact IK.Ft,by rw[g1,g4];exact IK.live,by rw[g1,g5];exact IK.free,?_,?_,?_,?_⟩
 ·rw[g6,IK.ln];unfold Fw.GY;rw[g1,g2]
 ·rw[g1,Qx];intro c0 r hr;rw[hb _ (LZ r hr),hk _ (U3 r hr)];exact IK.z c0 r hr
 ·rw[g1];intro i hi o O1;have Yw:S'.ba t i=S.ba t i:=by unfold Fw.ba;rw[Qx,g1]
  have GG:S.At (S.ba t i) t i:=⟨ht,hi,rfl⟩;have GU:=GG.R4 IK.c9;have e3:S.ba t i+o=S.sa t+(S.ba t i+o-S.sa t):=by omega
  rw[Yw,hb _ (by rw[e3];exact LZ _ (by omega)),hk _ (by rw[e3];exact U3 _ (by omega)),(IK.b i hi o O1).1,(IK.b i hi o O1).2];unfold Fw.bb Fw.kk;rw[g1,ho _ (by unfold Fw.sa at GU⊢;omega)];exact⟨rfl,rfl⟩
 ·rw[g1,Qx];intro c0 r r1 r2;rw[hb _ (LZ r r2),hk _ (U3 r r2)];exact IK.p c0 r r1 r2
theorem CV(h:aQ S X)(hm:Is X.lo m){a s i:Nat}(ha:S.At a s i)(hf:a∈(S.sl s).free)(FR:Ig (S.sl s).free a<4294967296):im a 4 m=some (Ig (S.sl s).free a)/\dB a m=some (0,6):=by
 obtain⟨b1,b2,b3,b4,b5,b6,b7,b8,b9⟩:=h.MV hm ha;have Mh:∀o,S.bb s a o=cN (Ig (S.sl s).free a) o:=λo=>by unfold Fw.bb;rw[if_pos hf]
 have hl:=CQ h hm ha λo ho=>by rw[Mh,cN,if_neg (by omega)]
 rw[Fw.KH hf]at hl;refine⟨?_,hl⟩;have:=h.ld hm ha (o:=4) (w:=4) (v:=Ig (S.sl s).free a) (by omega) (.inr (.inr (.inl rfl))) rfl (by rw[Is.SP];exact FR) λj hj=>by
  rw[Mh,cN,if_pos (by omega),Nat.add_sub_cancel_left]
 rw[Fw.KH hf]at this;unfold im;rw[hl,Fj];unfold S9;rw[if_neg (by decide)];exact this
theorem CW{S:Fw}{X:Hp}(h:aQ S X){c:Nat}:Mc X.ln c 0 X.Fq=Mc S.GY c 0 S.Fq:=by
 rw[h.Fq];exact fx _ _ λu _ hu=>by rw[(h.sl u (by omega)).ln]
def Fw.fst(S:Fw)(c:Nat):Nat:=Mc S.GY c 0 S.Fq
theorem p8(h:aQ S X)(hm:Is X.lo m){c:Nat}(hc:c<=9):m.root (3+c)=some (S.fst c):=by
 rw[pU hm hc];exact congrArg some (CW h)
def Fw.FD(S:Fw)(s:Nat)(l:List Nat):Fw:= {S with sl:=Fv S.sl s ⟨(S.sl s).Ft,l⟩}
theorem Fw.FX(S:Fw)(s:Nat)(l:List Nat):(S.FD s l).sl s=⟨(S.sl s).Ft,l⟩:=ak _ _ _
theorem Fw.FU(S:Fw){s t:Nat}(l:List Nat)(h:t≠s):(S.FD s l).sl t=S.sl t:=af _ _ h
theorem Fw.Gr(S:Fw)(s t:Nat)(l:List Nat):((S.FD s l).sl t).Ft=(S.sl t).Ft:=by
 by_cases h:t=s
 ·rw[h,S.FX]
 ·rw[S.FU l h]
theorem Fw.GR(S:Fw)(s:Nat)(l:List Nat)(a t j:Nat):(S.FD s l).At a t j↔S.At a t j:=by
 unfold Fw.At Fw.ba;rw[S.Gr];rfl
theorem CX(h:aQ S X)(hm:Is X.lo m){s a:Nat}{l:List Nat}(hs:s<S.Fq)(GF:(S.sl s).free=a::l)(hnd:(a::l).Nodup)(OL:∀b∈a::l,∃i,S.At b s i)(Km:S.out s=false)(Pe:S.ob a=none)(x:Sl)(hx:x.Ft=X.Ft s/\x.live=X.live s/\x.free=X.free s):
  ∃m',tR s x m=some (a,m')/\NM (S.FD s l) m':=by
 have hk:=h.sl s hs;have hz:=h.Hk hm;obtain⟨i,ha⟩:=OL a (by simp);obtain⟨b1,b2,b3,b4,b5,b6,b7,b8,b9⟩:=h.MV hm ha;have PX:a∈(S.sl s).free:=by rw[GF];simp
 have Nk:a∉l:=(List.nodup_cons.1 hnd).1;have Tw:Ig (S.sl s).free a=l.headD 0:=by rw[GF,lE]
 have G1:∀b∈l,b<200000/\b≠0:=λb hb=>by
  obtain⟨j,hj⟩:=OL b (by simp[hb]);have:=h.MV hm hj;omega
 have hhd:l.headD 0<200000/\(l.headD 0=0↔l= []):=by
  cases l with
  |nil=>simp
  |cons b l=>have:=G1 b (by simp);simp;omega
 obtain⟨f1,f2⟩:=CV h hm ha PX (by rw[Tw];omega);rw[Tw]at f1;have QX:=hk.live;have Hb:=(Nq _ b1 b2).2.2.2.1;rw[GF,List.length_cons]at QX;have xf:x.free=a:=by rw[hx.2.2,hk.free,GF];rfl
 have xc:x.Ft=(S.sl s).Ft:=by rw[hx.1,hk.Ft]
 obtain⟨m1,e1,h1⟩:=hm.stB (a:=a+4) (w:=4) (k:=6) (v:=0) (.inr (.inr (.inl rfl))) (by omega) (by decide) (by omega) (by omega) (λg q1 q2=>by rw[<-Fw.KH PX];exact h.kd hm ha (o:=4) (n:=4) (by omega) g q1 q2) (by decide);obtain⟨X1,NN⟩:∃X1:Hp,X1= {X with byte:=λq=>if a+4<=q/\q<a+4+4 then aJ 0 (q-(a+4))else X.byte q}:=⟨_,rfl⟩;have h1':Is X1.lo m1:=by rw[NN];exact h1
 have b3':X1.lo.base<=a:=by rw[NN];exact b3
 have b4':a+ae (S.sl s).Ft<=X1.lo.size:=by rw[NN];exact b4
 obtain⟨m2,e2,h2⟩:=h1'.KG (a:=a) (n:=ae (S.sl s).Ft) (k:=5) b3' b4' (by omega) (by omega) (by decide);obtain⟨X2,Hq⟩:∃X2:Hp,X2= {X1 with kind:=λg=>if a/4<=g/\g<(a+ae (S.sl s).Ft)/4 then 5 else X1.kind g}:=⟨_,rfl⟩;have h2':Is X2.lo m2:=by rw[Hq];exact h2
 obtain⟨m3,e3,h3⟩:=oy h2' (s:=s) (c:=(S.sl s).Ft) (l:=X.live s+1) (f:=l.headD 0) (by rw[Hq,NN];show s<X.Fq;rw[h.Fq];exact hs) b2 (by omega) (by omega);obtain⟨X3,Ht⟩:∃X3:Hp,X3= {X2 with Ft:=Fv X2.Ft s (S.sl s).Ft,live:=Fv X2.live s (X.live s+1),free:=Fv X2.free s (l.headD 0)}:=⟨_,rfl⟩;have h3':Is X3.lo m3:=by rw[Ht];exact h3
 have Kf:X.ln s=some (S.sl s).Ft:=by
  rw[hk.ln];unfold Fw.GY;rw[Km,if_neg (by decide),if_neg (by omega),GF,if_neg (by simp)]
 have hln3:X3.ln s=some (S.sl s).Ft:=by rw[Ht,Hq,NN];exact Kf
 obtain⟨m4,Y,e4,h4,hY⟩:∃m4,∃Y:Hp,(if l.headD 0=0 then oG (S.sl s).Ft s m3 else some m3)=some m4/\Is Y.lo m4/\Y= {X3 with ln:=if l= []then Fv X3.ln s none else X3.ln}:=by
  by_cases c:l= []
  ·obtain⟨m4,e4,h4⟩:=IV h3' (c:=(S.sl s).Ft) (s:=s) b2 (by rw[Ht,Hq,NN];show s<X.Fq;rw[h.Fq];exact hs) hln3;exact⟨m4,_,by rw[if_pos (hhd.2.2 c),e4],h4,by rw[if_pos c]⟩
  ·exact⟨m3,_,by rw[if_neg λe=>c (hhd.2.1 e)],h3',by rw[if_neg c]⟩
 have Ng:nE (S.FD s l) Y s:=by
  have es:(S.FD s l).sl s=⟨(S.sl s).Ft,l⟩:=S.FX s l;have Qx:(S.FD s l).sa s=S.sa s:=rfl;have Yw:∀j,(S.FD s l).ba s j=S.ba s j:=λj=>by unfold Fw.ba;rw[es,Qx]
  refine⟨by rw[es];exact b2,?_,?_,?_,?_,?_,?_,?_⟩
  ·rw[es,hY,Ht];exact ak _ _ _
  ·rw[es,hY,Ht];show Fv X2.live s (X.live s+1) s+l.length=ai (S.sl s).Ft;rw[ak];omega
  ·rw[es,hY,Ht];exact ak _ _ _
  ·rw[hY];show(if l= []then Fv X3.ln s none else X3.ln) s=(S.FD s l).GY s;unfold Fw.GY;rw[es];show _=if S.out s=true then none else if(S.sl s).Ft=0 then some 0 else if l= []then none else some (S.sl s).Ft
   have c0:¬(S.sl s).Ft=0:=by omega
   by_cases c:l= []
   ·simp only [c,if_true,ak,Km,Bool.false_eq_true,if_false,c0]
   ·simp only [c,if_false,hln3,Km,Bool.false_eq_true,c0]
  ·rw[es];intro c0;have:(S.sl s).Ft=0:=c0;omega
  ·intro j hj o ho;rw[Yw];rw[es]at hj ho;have GG:S.At (S.ba s j) s j:=⟨hs,hj,rfl⟩;have Qy:Y.byte (S.ba s j+o)=if a+4<=S.ba s j+o/\S.ba s j+o<a+4+4 then aJ 0 (S.ba s j+o-(a+4))else X.byte (S.ba s j+o):=by rw[hY,Ht,Hq,NN]
   have Qz:Y.kind ((S.ba s j+o)/4)=if a/4<=(S.ba s j+o)/4/\(S.ba s j+o)/4<(a+ae (S.sl s).Ft)/4 then 5 else X.kind ((S.ba s j+o)/4):=by rw[hY,Ht,Hq,NN]
   have O1:o<ae (S.sl s).Ft:=ho;have hbj:=h.MV hm GG;rw[Qy,Qz];unfold Fw.bb Fw.kk;rw[es];show _=(if S.ba s j∈l then cN (Ig l (S.ba s j)) o else match S.ob (S.ba s j)with|none=>0|some x=>bz x o)/\_=if S.ba s j∈l then 6 else 5
   by_cases e:S.ba s j=a
   ·rw[e,if_neg Nk,Pe,if_neg Nk];refine⟨?_,if_pos (by omega)⟩;show(if a+4<=a+o/\a+o<a+4+4 then aJ 0 (a+o-(a+4))else X.byte (a+o))=0;by_cases c:a+4<=a+o/\a+o<a+4+4
    ·rw[if_pos c];unfold aJ;simp
    ·rw[if_neg c,h.JP ha O1];unfold Fw.bb;rw[if_pos PX,cN,if_neg (by omega)]
   ·have hap:=ha.apart GG b2 b2 (λq=>e q.symm);have VQ:S.ba s j∈a::l↔S.ba s j∈l:=by rw[List.mem_cons];exact⟨λq=>q.resolve_left e,.inr⟩
    have q1:¬(a+4<=S.ba s j+o/\S.ba s j+o<a+4+4):=by omega
    have q2:¬(a/4<=(S.ba s j+o)/4/\(S.ba s j+o)/4<(a+ae (S.sl s).Ft)/4):=by omega
    rw[if_neg q1,if_neg q2,h.JP GG O1,(hk.b j hj o ho).2];unfold Fw.bb Fw.kk;rw[GF];by_cases c:S.ba s j∈l
    ·simp only [VQ.2 c,c,if_true,pY (λq=>e q.symm)];exact⟨trivial,trivial⟩
    ·have c':¬S.ba s j∈a::l:=λq=>c (VQ.1 q);simp only [c,c',if_false];exact⟨by first|rfl|trivial,trivial⟩
  ·rw[es,Qx];intro c0 r r1 r2;have h3:(i+1)*ae (S.sl s).Ft<=ai (S.sl s).Ft*ae (S.sl s).Ft:=Nat.mul_le_mul_right _ ha.2.1;rw[Nat.add_mul,Nat.one_mul,Nat.mul_comm (ai _)]at h3;have e2:=ha.2.2;unfold Fw.ba at e2;have r1':ae (S.sl s).Ft*ai (S.sl s).Ft<=r:=r1;have Qy:Y.byte (S.sa s+r)=if a+4<=S.sa s+r/\S.sa s+r<a+4+4 then aJ 0 (S.sa s+r-(a+4))else X.byte (S.sa s+r):=by rw[hY,Ht,Hq,NN]
   have Qz:Y.kind ((S.sa s+r)/4)=if a/4<=(S.sa s+r)/4/\(S.sa s+r)/4<(a+ae (S.sl s).Ft)/4 then 5 else X.kind ((S.sa s+r)/4):=by rw[hY,Ht,Hq,NN]
   have q1:¬(a+4<=S.sa s+r/\S.sa s+r<a+4+4):=by omega
   have q2:¬(a/4<=(S.sa s+r)/4/\(S.sa s+r)/4<(a+ae (S.sl s).Ft)/4):=by
    have:(S.sa s+ae (S.sl s).Ft*ai (S.sl s).Ft)%4=0:=by
     have:=(Nq _ b1 b2).2.2.2.2.2.2.2;unfold Fw.sa;omega
    omega
   rw[Qy,Qz,if_neg q1,if_neg q2];exact hk.p (by omega) r r1 r2
 refine⟨m4,?_,Y,h4,h.one (S':=S.FD s l) (X':=Y) hs rfl rfl (by rw[hY,Ht,Hq,NN]) (by rw[hY,Ht,Hq,NN]) (by rw[hY,Ht,Hq,NN];exact h.root) (by rw[hY,Ht,Hq,NN];exact h.slot) (λt ht=> ?_) (λ_ _=>rfl) (λq hq=> ?_) (λg hg=> ?_) Ng hz.2.2.1⟩
 ·unfold tR;rw[xf,f1,Fj];unfold bE;rw[f2,Fj];show((m.st (a+4) 4 6 0).bind _)=_;rw[e1,Fj,xc,e2,Fj,hx.2.1,e3,Fj,e4,Fj]
 ·refine⟨S.FU l ht,rfl,?_,?_,?_,?_⟩
  ·rw[hY,Ht,Hq,NN];exact af _ _ ht
  ·rw[hY,Ht,Hq,NN];exact af _ _ ht
  ·rw[hY,Ht,Hq,NN];exact af _ _ ht
  ·rw[hY];show(if l= []then Fv X3.ln s none else X3.ln) t=X.ln t;by_cases c:l= []
   ·rw[if_pos c,af _ _ ht,Ht,Hq,NN]
   ·rw[if_neg c,Ht,Hq,NN]
 ·have GU:=ha.R4 b2;have Qy:Y.byte q=if a+4<=q/\q<a+4+4 then aJ 0 (q-(a+4))else X.byte q:=by rw[hY,Ht,Hq,NN]
  rw[Qy,if_neg (by omega)]
 ·have GU:=ha.R4 b2;have Qz:Y.kind g=if a/4<=g/\g<(a+ae (S.sl s).Ft)/4 then 5 else X.kind g:=by rw[hY,Ht,Hq,NN]
  rw[Qz,if_neg (by omega)]
end
end Go.FC
