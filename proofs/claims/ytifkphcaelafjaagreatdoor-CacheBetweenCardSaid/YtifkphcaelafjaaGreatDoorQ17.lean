/-
  Lemmas on the way to the row. No condition beyond their own.
-/
import Derived.Test.YtifkphcaelafjaaGreatDoorQ16
set_option maxHeartbeats 25600000
set_option maxRecDepth 100000
set_option linter.unusedVariables false
set_option linter.unusedSimpArgs false
namespace Go.FC
section
variable{S S':Fw}{X X':Hp}{m:Mm}
theorem yJ(hm:Is X.lo m){a f:Nat}(hf:f<4294967296)(Jp:a%16=0)(hb:X.lo.base<=a)(hs:a+8<=X.lo.size)(hk:∀g,a/4<=g->g<(a+8)/4->X.kind g=6):
  ∃m',qS a f m=some m'/\Is {X with byte:=λq=>if a<=q/\q<a+8 then cN f (q-a)else X.byte q}.lo m':=by
 have hr:bn {name:=f}=true:=by
  unfold bn aW;have:(List.range 12).any (λg=> !Nat.beq ((aT {name:=f}).getD g 0) 0&&Nat.beq (FO (0:Nat) g).2 0)=false:=by
   rw[List.any_eq_false];intro g hg;have UB:=List.mem_range.1 hg;rcases(show g=0\/g=1\/g=2\/g=3\/g=4\/g=5\/g=6\/g=7\/g=8\/g=9\/g=10\/g=11 by omega)with rfl|rfl|rfl|rfl|rfl|rfl|rfl|rfl|rfl|rfl|rfl|rfl
   all_goals first|(simp[FO,Nw];done)|(simp[aT];done)
  rw[this];rfl
 have kd:∀o w,o+w<=8->Is.Kd X.lo (a+o) w 6\/True:=λ_ _ _=> .inr trivial;have st:∀(Y:Hp) (m:Mm) (o w v:Nat),Is Y.lo m->Y.kind=X.kind->Y.Fq=X.Fq->Y.slots=X.slots->o+w<=8->(w=1\/w=2\/w=4\/w=8)->(a+o)%w=0->v<256^w->
   ∃m',m.st (a+o) w 6 v=some m'/\Is {Y with byte:=λq=>if a+o<=q/\q<a+o+w then aJ v (q-(a+o))else Y.byte q}.lo m':=by
  intro Y m o w v hY e1 e2 e3 ho hw hd hv;have eb:Y.lo.base=X.lo.base:=by unfold Lo.base;show aN Y.Fq Y.slots=aN X.Fq X.slots;rw[e2,e3]
  have es:Y.lo.size=X.lo.size:=by unfold Lo.size;show br Y.Fq Y.slots=br X.Fq X.slots;rw[e2,e3]
  exact hY.stB hw hd (by decide) (by rw[eb];omega) (by rw[es];omega) (λg g1 g2=>by show Y.kind g=6;rw[e1];exact hk g (by omega) (by omega)) hv
 obtain⟨m0,e0,h0⟩:=st X m 0 1 0 hm rfl rfl rfl (by decide) (.inl rfl) (by omega) (by decide);obtain⟨m1,e1,h1⟩:=st _ m0 1 1 0 h0 rfl rfl rfl (by decide) (.inl rfl) (by omega) (by decide);obtain⟨m2,e2,h2⟩:=st _ m1 2 1 0 h1 rfl rfl rfl (by decide) (.inl rfl) (by omega) (by decide);obtain⟨m3,e3,h3⟩:=st _ m2 3 1 0 h2 rfl rfl rfl (by decide) (.inl rfl) (by omega) (by decide);obtain⟨m4,e4,h4⟩:=st _ m3 4 4 f h3 rfl rfl rfl (by decide) (.inr (.inr (.inl rfl))) (by omega) (by rw[Is.SP];exact hf);refine⟨m4,?_,h4.congr rfl rfl (λ_ _=>rfl) (λ_ _ _ _=>rfl) (λ_ _=>rfl) (λq _ _=> ?_) λ_ _ _=>rfl⟩
 ·unfold qS gk;rw[if_pos hr];show eC a 6 {name:=f} 0 12 m=some m4;simp only [eC,show FO (0:Nat) 0=(0,1)from rfl,show FO (0:Nat) 1=(1,1)from rfl,show FO (0:Nat) 2=(2,1)from rfl,show FO (0:Nat) 3=(3,1)from rfl,show FO (0:Nat) 4=(4,4)from rfl,show FO (0:Nat) 5=(0,0)from rfl,show FO (0:Nat) 6=(0,0)from rfl,
   show FO (0:Nat) 7=(0,0)from rfl,show FO (0:Nat) 8=(0,0)from rfl,show FO (0:Nat) 9=(0,0)from rfl,show FO (0:Nat) 10=(0,0)from rfl,show FO (0:Nat) 11=(0,0)from rfl,Nat.zero_add,Nat.reduceAdd]
  simp only [show((1:Nat)=0)=False from by simp,show((4:Nat)=0)=False from by simp,if_false,if_true,Fj];show((m.st (a+0) 1 6 0).bind _)=_;rw[e0,Fj];show((m0.st (a+1) 1 6 0).bind _)=_;rw[e1,Fj];show((m1.st (a+2) 1 6 0).bind _)=_;rw[e2,Fj];show((m2.st (a+3) 1 6 0).bind _)=_;rw[e3,Fj];show((m3.st (a+4) 4 6 f).bind _)=_;rw[e4,Fj]
 ·show(if a+4<=q/\q<a+4+4 then aJ f (q-(a+4))else if a+3<=q/\q<a+3+1 then aJ 0 (q-(a+3))else if a+2<=q/\q<a+2+1 then aJ 0 (q-(a+2))else if a+1<=q/\q<a+1+1 then aJ 0 (q-(a+1))else if a+0<=q/\q<a+0+1 then aJ 0 (q-(a+0))else X.byte q)=if a<=q/\q<a+8 then cN f (q-a)else X.byte q
  have z:∀i,aJ 0 i=0:=λi=>by unfold aJ;simp
  simp only [z];unfold cN;by_cases c1:a+4<=q/\q<a+4+4
  ·rw[if_pos c1,if_pos (by omega),if_pos (by omega)];congr 1
  ·rw[if_neg c1];by_cases c2:a<=q/\q<a+8
   ·rw[if_pos c2,if_neg (c:=4<=q-a/\q-a<8) (by omega)]
    repeat' split
    all_goals first|rfl|omega
   ·rw[if_neg c2,if_neg (by omega),if_neg (by omega),if_neg (by omega),if_neg (by omega)]
theorem p9{at0 sz:Nat}(Jp:at0%16=0)(F8:sz%16=0)(h32:32<=sz):∀(k f:Nat) (X:Hp) (m:Mm),Is X.lo m->f<4294967296->X.lo.base<=at0->at0+k*sz<=X.lo.size->(∀g,at0/4<=g->g<(at0+k*sz)/4->X.kind g=6)->
  ∃m' TE,dD at0 sz k f m=some (if k=0 then f else at0,m')/\Is {X with byte:=TE}.lo m'/\(∀j,j<k->∀o,o<sz->TE (at0+j*sz+o)=if o<8 then cN (if j+1=k then f else at0+(j+1)*sz) o else X.byte (at0+j*sz+o))/\∀q,q<at0\/at0+k*sz<=q->TE q=X.byte q
 |0,f,X,m,hm,_,_,_,_=>⟨m,X.byte,rfl,hm,λj hj=>by omega,λ_ _=>rfl⟩
 |k+1,f,X,m,hm,hf,hb,hs,hk=>by
  rw[Nat.add_mul,Nat.one_mul]at hs hk;have Mw:k*sz%16=0:=by rw[Nat.mul_mod,F8,Nat.mul_zero]
  have hsz9:X.lo.size<=200000:=hm.Hk.1;obtain⟨m1,e1,h1⟩:=yJ hm (a:=at0+k*sz) hf (by omega) (by omega) (by omega) λg g1 g2=>hk g (by omega) (by omega);obtain⟨m',TE,e2,h2,h3,h4⟩:=p9 Jp F8 h32 k (at0+k*sz) _ m1 h1 (by omega) hb (show at0+k*sz<=X.lo.size by omega) λg g1 g2=>hk g g1 (by omega);refine⟨m',TE,?_,h2,λj hj o ho=> ?_,λq hq=> ?_⟩
  ·rw[dD,e1,Fj,e2];by_cases c:k=0
   ·rw[if_pos c,if_neg (by omega),c,Nat.zero_mul,Nat.add_zero]
   ·rw[if_neg c,if_neg (by omega)]
  ·by_cases c:j=k
   ·subst c;rw[h4 _ (by omega)];show(if at0+j*sz<=at0+j*sz+o/\at0+j*sz+o<at0+j*sz+8 then cN f (at0+j*sz+o-(at0+j*sz))else X.byte (at0+j*sz+o))=_;rw[if_pos (c:=j+1=j+1) rfl,Nat.add_sub_cancel_left];by_cases c:o<8
    ·rw[if_pos (by omega),if_pos c]
    ·rw[if_neg (by omega),if_neg c]
   ·have XV:(j+1)*sz<=k*sz:=Nat.mul_le_mul_right _ (by omega);rw[Nat.add_mul,Nat.one_mul]at XV;rw[h3 j (by omega) o ho];show(if o<8 then cN (if j+1=k then at0+k*sz else at0+(j+1)*sz) o else if at0+k*sz<=at0+j*sz+o/\at0+j*sz+o<at0+k*sz+8 then cN f (at0+j*sz+o-(at0+k*sz))else X.byte (at0+j*sz+o))=_;rw[if_neg (c:=j+1=k+1) (by omega),if_neg (c:=at0+k*sz<=at0+j*sz+o/\at0+j*sz+o<at0+k*sz+8) (by omega)];by_cases c2:j+1=k
    ·rw[if_pos c2,c2]
    ·rw[if_neg c2]
  ·rw[Nat.add_mul,Nat.one_mul]at hq;rw[h4 q (by omega)];show(if at0+k*sz<=q/\q<at0+k*sz+8 then cN f (q-(at0+k*sz))else X.byte q)=X.byte q;rw[if_neg (by omega)]
def Fw.blocks(S:Fw)(s c:Nat):List Nat:=bL (S.sa s) (ae c) 0 (ai c)
def Fw.FY(S:Fw)(s c:Nat)(l:List Nat):Fw:= {S with sl:=Fv S.sl s ⟨c,l⟩}
theorem Fw.Gm(S:Fw)(s c:Nat)(l:List Nat):(S.FY s c l).sl s=⟨c,l⟩:=ak _ _ _
theorem Fw.Gb(S:Fw){s t:Nat}(c:Nat)(l:List Nat)(h:t≠s):(S.FY s c l).sl t=S.sl t:=af _ _ h
theorem CY(h:aQ S X)(hm:Is X.lo m){s c:Nat}(hs:s<S.Fq)(GN:1<=c)(IY:c<=9)(h0:(S.sl s).Ft=0)(JG:(S.sl s).free= [])(Km:S.out s=false)(x:Sl)(hx:x.live=X.live s/\x.free=X.free s):
  ∃m',ir s c x m=some ({x with Ft:=c,free:=S.sa s},m')/\∃X',Is X'.lo m'/\aQ (S.FY s c (S.blocks s c)) X'/\X'.Ft s=c/\X'.live s=X.live s/\X'.free s=S.sa s:=by
 have hk:=h.sl s hs;have hz:=h.Hk hm;obtain⟨b1,b2,b3,b4,b5,b6,b7,b8⟩:=Nq c GN IY;have Rt:s<X.Fq:=by rw[h.Fq];exact hs
 have Kf:X.ln s=some 0:=by
  rw[hk.ln];unfold Fw.GY;rw[Km,if_neg (by decide),if_pos h0]
 have RO:X.live s=0:=by
  have:=hk.live;rw[h0,Lv.2]at this;omega
 have hfr0:X.free s=0:=by rw[hk.free,JG];rfl
 have PR:X.lo.base=S.base:=hz.2.2.2.2.2.2.1;have US:X.lo.size=S.size:=hz.2.2.2.2.2.2.2.1;have XZ:S.base<=S.sa s/\S.sa s+1024<=S.size/\S.sa s%16=0:=by unfold Fw.sa;omega
 have Qx:ax m s=S.sa s:=by
  have e2:m.Fq=S.Fq:=hm.Fq.trans h.Fq;have e3:m.slots=S.slots:=hm.slots.trans h.slots;unfold ax Fw.sa Fw.base;rw[e2,e3]
 obtain⟨A,hA⟩:=Fp (S.sa s);rw[<-hA]at Qx XZ;obtain⟨m1,e1,h1⟩:=IV hm (c:=0) (by decide) Rt Kf;have z1: {X with ln:=Fv X.ln s none}.lo.base<=A:=by show X.lo.base<=A;omega
 obtain⟨m2,e2,h2⟩:=h1.KG (a:=A) (n:=ae c*ai c) (k:=6) z1 (by show _<=X.lo.size;omega) (by omega) (by omega) (by decide);obtain⟨m3,e3,h3⟩:=h2.KG (a:=A+ae c*ai c) (n:=fA c) (k:=8) (by show X.lo.base<=_;omega) (by show _<=X.lo.size;omega) (by omega) (by omega) (by decide);obtain⟨X3,Ht⟩:∃X3:Hp,X3= {X with ln:=Fv X.ln s none,kind:=λg=>if(A+ae c*ai c)/4<=g/\g<(A+ae c*ai c+fA c)/4 then 8 else if A/4<=g/\g<(A+ae c*ai c)/4 then 6 else X.kind g}:=⟨_,rfl⟩;have h3':Is X3.lo m3:=by rw[Ht];exact h3
 have hmc:ai c*ae c=ae c*ai c:=Nat.mul_comm _ _;obtain⟨m4,by4,e4,h4,h5,h6⟩:=p9 (at0:=A) (sz:=ae c) (by omega) b2 b1 (ai c) 0 X3 m3 h3' (by decide) (by rw[Ht];exact z1) (by rw[Ht];show _<=X.lo.size;omega) λg g1 g2=>by
  rw[Ht];show(if(A+ae c*ai c)/4<=g/\g<(A+ae c*ai c+fA c)/4 then 8 else if A/4<=g/\g<(A+ae c*ai c)/4 then 6 else X.kind g)=6;rw[if_neg (by omega),if_pos (by omega)]
 rw[if_neg (by omega)]at e4;obtain⟨m5,e5,h7⟩:=oy h4 (s:=s) (c:=c) (l:=X.live s) (f:=A) (by rw[Ht];exact Rt) IY (by omega) (by omega);obtain⟨m6,e6,h8⟩:=Lu h7 (c:=c) (s:=s) IY (by rw[Ht];exact Rt) (by rw[Ht];exact ak _ _ _);obtain⟨Y,hY⟩:∃Y:Hp,Y= {X3 with byte:=by4,Ft:=Fv X3.Ft s c,live:=Fv X3.live s (X.live s),free:=Fv X3.free s A,ln:=Fv X3.ln s (some c)}:=⟨_,rfl⟩;have h8':Is Y.lo m6:=by rw[hY];exact h8
 have hyc:Y.Ft s=c:=by rw[hY];exact ak _ _ _
 have hyl:Y.live s=X.live s:=by rw[hY];exact ak _ _ _
 have hyf:Y.free s=A:=by rw[hY];exact ak _ _ _
 have hyn:Y.ln s=some c:=by rw[hY];exact ak _ _ _
 have Qz:∀g,Y.kind g=if(A+ae c*ai c)/4<=g/\g<(A+ae c*ai c+fA c)/4 then 8 else if A/4<=g/\g<(A+ae c*ai c)/4 then 6 else X.kind g:=λg=>by rw[hY,Ht]
 have Qy:Y.byte=by4:=by rw[hY]
 have hxb:X3.byte=X.byte:=by rw[Ht]
 have es:(S.FY s c (S.blocks s c)).sl s=⟨c,S.blocks s c⟩:=S.Gm s c _;have eA:(S.FY s c (S.blocks s c)).sa s=A:=hA.symm;have Yw:∀j,(S.FY s c (S.blocks s c)).ba s j=A+j*ae c:=λj=>by unfold Fw.ba;rw[es,eA]
 have U4:S.blocks s c=bL A (ae c) 0 (ai c):=by unfold Fw.blocks;rw[<-hA]
 have Ng:nE (S.FY s c (S.blocks s c)) Y s:=by
  refine⟨by rw[es];exact IY,by rw[es,hyc],?_,?_,?_,?_,?_,?_⟩
  ·rw[es,hyl,RO];show 0+(S.blocks s c).length=ai c;rw[U4,lF,Nat.zero_add]
  ·rw[es,hyf];show A=(S.blocks s c).headD 0;rw[U4];obtain⟨n,hn⟩:∃n,ai c=n+1:=⟨ai c-1,by omega⟩;rw[hn,bL,Nat.zero_mul,Nat.add_zero];rfl
  ·rw[hyn];unfold Fw.GY;rw[es];show _=if S.out s=true then none else if c=0 then some 0 else if S.blocks s c= []then none else some c
   rw[Km,if_neg (by decide),if_neg (by omega),if_neg];intro e;have:=congrArg List.length e;rw[U4,lF]at this;simp at this;omega
  ·rw[es];intro c0;have:c=0:=c0;omega
  ·intro j hj o ho;rw[es]at hj ho;have Yi:j<ai c:=hj;have O1:o<ae c:=ho;rw[Yw];have XV:(j+1)*ae c<=ai c*ae c:=Nat.mul_le_mul_right _ Yi;rw[Nat.add_mul,Nat.one_mul,hmc]at XV;have PX:A+j*ae c∈S.blocks s c:=by rw[U4];exact(iO _ _ _).2 ⟨j,by omega,by omega,rfl⟩
   have TJ:X.byte (A+j*ae c+o)=0:=by
    have:=(hk.z h0 (j*ae c+o) (by omega)).1;rw[<-hA,<-Nat.add_assoc]at this;exact this
   refine⟨?_,?_⟩
   ·rw[Qy,h5 j Yi o O1,hxb,TJ];unfold Fw.bb;rw[es];show _=if A+j*ae c∈S.blocks s c then cN (Ig (S.blocks s c) (A+j*ae c)) o else _
    rw[if_pos PX,U4,yI (by omega) _ _ _ (by omega) (by omega),Nat.zero_add];by_cases c8:o<8
    ·rw[if_pos c8];by_cases c9:j+1=ai c
     ·rw[if_pos c9,if_neg (by omega)]
     ·rw[if_neg c9,if_pos (by omega)]
    ·rw[if_neg c8,cN,if_neg (by omega)]
   ·rw[Qz,if_neg (by omega),if_pos (by omega)];unfold Fw.kk;rw[es,if_pos PX]
  ·rw[es,eA];intro _ r r1 r2;have r1':ae c*ai c<=r:=r1;refine⟨?_,?_⟩
   ·rw[Qy,h6 _ (by rw[hmc];omega),hxb,hA];exact(hk.z h0 r r2).1
   ·rw[Qz,if_pos (by omega)]
 refine⟨m6,?_,Y,h8',h.one (S':=S.FY s c (S.blocks s c)) (X':=Y) hs rfl rfl (by rw[hY,Ht]) (by rw[hY,Ht]) (by rw[hY,Ht];exact h.root) (by rw[hY,Ht];exact h.slot) (λt ht=>⟨S.Gb c _ ht,rfl,?_,?_,?_,?_⟩) (λ_ _=>rfl) (λq hq=> ?_) (λg hg=> ?_) Ng hz.2.2.1,hyc,hyl,by rw[hyf,hA]⟩
 ·unfold ir;rw[e1,Fj,Qx,e2,Fj,e3,Fj,hx.2,hfr0,e4,Fj,hx.1];dsimp only;rw[e5,Fj,e6,Fj,hA]
 ·rw[hY,Ht];exact af _ _ ht
 ·rw[hY,Ht];exact af _ _ ht
 ·rw[hY,Ht];exact af _ _ ht
 ·rw[hY,Ht];show Fv (Fv X.ln s none) s (some c) t=X.ln t;rw[af _ _ ht,af _ _ ht]
 ·rw[<-hA]at hq;rw[Qy,h6 q (by rw[hmc];omega),hxb]
 ·rw[<-hA]at hg;rw[Qz,if_neg (by omega),if_neg (by omega)]
end
section
variable{S S':Fw}{X X':Hp}{m:Mm}
theorem sm{s c:Nat}(h:S.GY s=some c)(hc:1<=c):S.out s=false/\(S.sl s).Ft=c/\(S.sl s).free≠ []:=by
 unfold Fw.GY at h;cases ho:S.out s with
 |true=>rw[ho,if_pos rfl]at h;cases h
 |false=>
  rw[ho,if_neg (by decide)]at h;by_cases h0:(S.sl s).Ft=0
  ·rw[if_pos h0]at h;injection h with h;omega
  ·rw[if_neg h0]at h;by_cases hf:(S.sl s).free= []
   ·rw[if_pos hf]at h;cases h
   ·rw[if_neg hf]at h;injection h with h;exact⟨rfl,h,hf⟩
theorem sn{s:Nat}(h:S.GY s=some 0):S.out s=false/\(S.sl s).Ft=0:=by
 unfold Fw.GY at h;cases ho:S.out s with
 |true=>rw[ho,if_pos rfl]at h;cases h
 |false=>
  rw[ho,if_neg (by decide)]at h;by_cases h0:(S.sl s).Ft=0
  ·exact⟨rfl,h0⟩
  ·rw[if_neg h0]at h;by_cases hf:(S.sl s).free= []
   ·rw[if_pos hf]at h;cases h
   ·rw[if_neg hf]at h;injection h with h;exact absurd h h0
theorem jM{c s:Nat}(h:S.fst c=s+1):s<S.Fq/\S.GY s=some c/\∀q,q<s->S.GY q≠some c:=by
 unfold Fw.fst at h;rcases Hg S.GY c S.Fq 0 with⟨e,_⟩|⟨u,e,h1,h2,h3,h4⟩
 ·omega
 ·obtain rfl:u=s:=by omega
  exact⟨by omega,h3,λq hq=>h4 q (by omega) hq⟩
theorem vJ{c:Nat}(h:S.fst c=0):∀q,q<S.Fq->S.GY q≠some c:=by
 unfold Fw.fst at h;rcases Hg S.GY c S.Fq 0 with⟨_,h1⟩|⟨u,e,_⟩
 ·exact λq hq=>h1 q (by omega) (by omega)
 ·omega
theorem Wf.N9(w:Wf S)(h:aQ S X){s a:Nat}(hs:s<S.Fq)(ha:a∈(S.sl s).free):S.ob a=none:=by
 cases e:S.ob a with
 |none=>rfl
 |some x=>
  obtain⟨t,j,hj,hn,_⟩:=w.ob a x e;obtain⟨i,hi⟩:=w.Nr s hs a ha;obtain⟨e1,_⟩:=hi.inj hj (h.sl s hs).c9 (h.sl t hj.1).c9;subst e1;exact absurd ha hn
theorem Wf.PY(w:Wf S)(h:aQ S X){a s i:Nat}{x:Ob}(hx:S.ob a=some x)(ha:S.At a s i):a∉(S.sl s).free/\x.b.Ft=(S.sl s).Ft/\cX x:=by
 obtain⟨t,j,hj,h1,h2,h3⟩:=w.ob a x hx;obtain⟨e1,_⟩:=ha.inj hj (h.sl s ha.1).c9 (h.sl t hj.1).c9;subst e1;exact⟨h1,h2,h3⟩
theorem JN(h:aQ S X)(hm:Is X.lo m)(w:Wf S){c s:Nat}(GN:1<=c)(IY:c<=9)(hf:S.fst c=s+1):
  ∃a l m',(S.sl s).free=a::l/\dd c m=some ((a,0),m')/\NM (S.FD s l) m':=by
 obtain⟨hs,hl,_⟩:=jM hf;obtain⟨ho,hc,hn⟩:=sm hl GN;have Rt:s<X.Fq:=by rw[h.Fq];exact hs
 cases e:(S.sl s).free with
 |nil=>exact absurd e hn
 |cons a l=>
  have hnd:=w.nodup s hs;have OL:=w.Nr s hs;rw[e]at hnd OL;obtain⟨m',e2,h2⟩:=CX h hm hs e hnd OL ho (w.N9 h hs (by rw[e];simp)) ⟨X.Ft s,X.live s,X.free s,X.next s,X.prev s⟩ ⟨rfl,rfl,rfl⟩;refine⟨a,l,m',rfl,?_,h2⟩;unfold dd;rw[if_pos ⟨GN,IY⟩,p8 h hm IY,hf,Fj,if_pos (by omega),Nat.add_sub_cancel,kw hm Rt,Fj,e2,Fj]
theorem MW(h:aQ S X)(hm:Is X.lo m)(w:Wf S){c s:Nat}(GN:1<=c)(IY:c<=9)(hf:S.fst c=0)(JG:S.fst 0=s+1):
  ∃m',dd c m=some ((S.sa s,0),m')/\NM (S.FY s c (S.blocks s c).tail) m':=by
 obtain⟨hs,hl,_⟩:=jM JG;obtain⟨ho,hc⟩:=sn hl;have hk:=h.sl s hs;have Rt:s<X.Fq:=by rw[h.Fq];exact hs
 have GF:(S.sl s).free= []:=by
  have:=hk.live;rw[hc,Lv.2]at this;exact List.length_eq_zero_iff.1 (by omega)
 obtain⟨m1,e1,X1,h1,h2,h3,h4,h5⟩:=CY h hm hs GN IY hc GF ho ⟨X.Ft s,X.live s,X.free s,X.next s,X.prev s⟩ ⟨rfl,rfl⟩;obtain⟨b1,b2,b3,b4,b5,b6,b7,b8⟩:=Nq c GN IY;obtain⟨n,hn⟩:∃n,ai c=n+1:=⟨ai c-1,by omega⟩;have Hb:S.blocks s c=S.sa s::bL (S.sa s) (ae c) 1 n:=by
  unfold Fw.blocks;rw[hn,bL,Nat.zero_mul,Nat.add_zero]
 have es:(S.FY s c (S.blocks s c)).sl s=⟨c,S.blocks s c⟩:=S.Gm s c _;have Pk:∀j,(S.FY s c (S.blocks s c)).ba s j=S.sa s+j*ae c:=λj=>by
  unfold Fw.ba;rw[es];rfl
 have hnd:(S.blocks s c).Nodup:=ic (by omega) _ _;have OL:∀b∈S.blocks s c,∃i,(S.FY s c (S.blocks s c)).At b s i:=λb hb=>by
  obtain⟨j,_,j2,e⟩:=(iO _ _ _).1 hb;exact⟨j,hs,by rw[es];show j<ai c;omega,by rw[Pk];exact e⟩
 have Pe:S.ob (S.sa s)=none:=by
  cases e:S.ob (S.sa s)with
  |none=>rfl
  |some x=>
   obtain⟨t,j,hj,_⟩:=w.ob _ x e;have GU:=hj.R4 (h.sl t hj.1).c9;obtain⟨z1,_⟩:=Nq _ (hj.c (h.sl t hj.1).c9) (h.sl t hj.1).c9;have:t=s:=by unfold Fw.sa at GU;omega
   subst this;have:=hj.2.1;rw[hc,Lv.2]at this;omega
 rw[Hb]at hnd OL;obtain⟨m2,e2,h6⟩:=CX (S:=S.FY s c (S.blocks s c)) (X:=X1) h2 h1 (s:=s) (a:=S.sa s) (l:=bL (S.sa s) (ae c) 1 n) hs (by rw[es];exact Hb) hnd (by rw[<-Hb];rw[<-Hb]at OL;exact OL) ho Pe ⟨c,X.live s,S.sa s,X.next s,X.prev s⟩ ⟨h3.symm,h4.symm,h5.symm⟩;refine⟨m2,?_,?_⟩
 ·unfold dd;rw[if_pos ⟨GN,IY⟩,p8 h hm IY,hf,Fj,if_neg (by omega)];have:=p8 h hm (c:=0) (by decide);rw[show m.root 3=some (S.fst 0)from this,JG,Fj,if_neg (by omega),Nat.add_sub_cancel,kw hm Rt,Fj,e1,Fj];dsimp only;rw[e2,Fj]
 ·have e3:(S.FY s c (S.blocks s c)).FD s (bL (S.sa s) (ae c) 1 n)=S.FY s c (S.blocks s c).tail:=by
   have:Fv (S.FY s c (S.blocks s c)).sl s ⟨((S.FY s c (S.blocks s c)).sl s).Ft,bL (S.sa s) (ae c) 1 n⟩=Fv S.sl s ⟨c,(S.blocks s c).tail⟩:=by
    funext t;by_cases q:t=s
    ·rw[q,ak,ak,es,Hb];rfl
    ·rw[af _ _ q,af _ _ q,S.Gb c _ q]
   unfold Fw.FD;rw[this];rfl
  rw[<-e3];exact h6
theorem Lw(h:aQ S X)(hm:Is X.lo m){c:Nat}(GN:1<=c)(IY:c<=9)(hf:S.fst c=0)(JG:S.fst 0=0):dd c m=some ((0,5),m):=by
 unfold dd;have:=p8 h hm (c:=0) (by decide);rw[if_pos ⟨GN,IY⟩,p8 h hm IY,hf,Fj,if_neg (by omega),show m.root 3=some (S.fst 0)from this,JG,Fj,if_pos rfl]
theorem D7(h:aQ S X)(hm:Is X.lo m){s:Nat}(hs:s<S.Fq)(hc:1<=(S.sl s).Ft)(hall:∀i,i<ai (S.sl s).Ft->S.ba s i∈(S.sl s).free)(Km:S.out s=false)(x:Sl)(hx:x.Ft=X.Ft s):
  ∃m',qT s x m=some m'/\NM (S.FY s 0 []) m':=by
 have hk:=h.sl s hs;have IY:=hk.c9;have hz:=h.Hk hm;obtain⟨b1,b2,b3,b4,b5,b6,b7,b8⟩:=Nq _ hc IY;obtain⟨c,MO⟩:=Fp ((S.sl s).Ft);have Rt:s<X.Fq:=by rw[h.Fq];exact hs
 have PR:X.lo.base=S.base:=hz.2.2.2.2.2.2.1;have US:X.lo.size=S.size:=hz.2.2.2.2.2.2.2.1;have XZ:S.base<=S.sa s/\S.sa s+1024<=S.size/\S.sa s%16=0:=by unfold Fw.sa;omega
 have Qx:ax m s=S.sa s:=by
  have e2:m.Fq=S.Fq:=hm.Fq.trans h.Fq;have e3:m.slots=S.slots:=hm.slots.trans h.slots;unfold ax Fw.sa Fw.base;rw[e2,e3]
 obtain⟨A,hA⟩:=Fp (S.sa s);rw[<-hA]at Qx XZ;have hfne:(S.sl s).free≠ []:=λe=>by
  have:=hall 0 (by omega);rw[e]at this;cases this
 have Kf:X.ln s=some (S.sl s).Ft:=by
  rw[hk.ln];unfold Fw.GY;rw[Km,if_neg (by decide),if_neg (by omega),if_neg hfne]
 have xc:x.Ft=(S.sl s).Ft:=hx.trans hk.Ft;have Le:∀g,A/4<=g->g<(A+ae (S.sl s).Ft*ai (S.sl s).Ft+3)/4->X.kind g=6:=by
  intro g g1 g2;have hr:4*g-A<ae (S.sl s).Ft*ai (S.sl s).Ft:=by omega
  have hdm:=Nat.div_add_mod (4*g-A) (ae (S.sl s).Ft);have hj:(4*g-A)/ae (S.sl s).Ft<ai (S.sl s).Ft:=Nat.div_lt_of_lt_mul hr;have ho:(4*g-A)%ae (S.sl s).Ft<ae (S.sl s).Ft:=Nat.mod_lt _ (by omega);have:=(hk.b _ hj _ ho).2;have e2:S.ba s ((4*g-A)/ae (S.sl s).Ft)+(4*g-A)%ae (S.sl s).Ft=4*g:=by
   unfold Fw.ba;rw[<-hA,Nat.mul_comm (_/_)];omega
  rw[e2,show 4*g/4=g by omega]at this;rw[this,Fw.KH (hall _ hj)]
 obtain⟨m1,e1,h1⟩:=hm.R1 (a:=A) (n:=ae (S.sl s).Ft*ai (S.sl s).Ft) (k:=6) (by decide) (by omega) (by omega) Le;obtain⟨m2,e2,h2⟩:=h1.KG (a:=A) (n:=1024) (k:=7) (by show X.lo.base<=A;omega) (by show _<=X.lo.size;omega) (by omega) (by decide) (by decide);obtain⟨X2,Hq⟩:∃X2:Hp,X2= {X with byte:=λq=>if A<=q/\q<A+ae (S.sl s).Ft*ai (S.sl s).Ft then 0 else X.byte q,kind:=λg=>if A/4<=g/\g<(A+1024)/4 then 7 else X.kind g}:=⟨_,rfl⟩;have h2':Is X2.lo m2:=by rw[Hq];exact h2
 obtain⟨m3,e3,h3⟩:=IV h2' (c:=(S.sl s).Ft) (s:=s) IY (by rw[Hq];exact Rt) (by rw[Hq];exact Kf);obtain⟨m4,e4,h4⟩:=oy h3 (s:=s) (c:=0) (l:=0) (f:=0) (by rw[Hq];exact Rt) (by decide) (by decide) (by decide);obtain⟨m5,e5,h5⟩:=Lu h4 (c:=0) (s:=s) (by decide) (by rw[Hq];exact Rt) (ak _ _ _);obtain⟨Y,hY⟩:∃Y:Hp,Y= {X2 with Ft:=Fv X2.Ft s 0,live:=Fv X2.live s 0,free:=Fv X2.free s 0,ln:=Fv (Fv X2.ln s none) s (some 0)}:=⟨_,rfl⟩;have h5':Is Y.lo m5:=by rw[hY];exact h5
 have Qy:∀q,Y.byte q=if A<=q/\q<A+ae (S.sl s).Ft*ai (S.sl s).Ft then 0 else X.byte q:=λq=>by rw[hY,Hq]
 have Qz:∀g,Y.kind g=if A/4<=g/\g<(A+1024)/4 then 7 else X.kind g:=λg=>by rw[hY,Hq]
 have es:(S.FY s 0 []).sl s=⟨0,[]⟩:=S.Gm s 0 _;have eA:(S.FY s 0 []).sa s=A:=hA.symm;have Ng:nE (S.FY s 0 []) Y s:=by
  refine⟨by rw[es];decide,?_,?_,?_,?_,?_,?_,?_⟩
  ·rw[es,hY];exact ak _ _ _
  ·rw[es,hY];show Fv X2.live s 0 s+0=ai 0;rw[ak,Lv.2]
  ·rw[es,hY];exact ak _ _ _
  ·rw[hY];show Fv (Fv X2.ln s none) s (some 0) s=_;rw[ak];unfold Fw.GY;rw[es];show some 0=if S.out s=true then none else if 0=0 then some 0 else _
   rw[Km,if_neg (by decide),if_pos rfl]
  ·intro _ r hr;rw[eA];refine⟨?_,by rw[Qz,if_pos (by omega)]⟩;rw[Qy];by_cases q:r<ae (S.sl s).Ft*ai (S.sl s).Ft
   ·rw[if_pos (by omega)]
   ·rw[if_neg (by omega),hA];exact(hk.p (by omega) r (by omega) hr).1
  ·rw[es];intro j hj;have:j<ai 0:=hj;rw[Lv.2]at this;omega
  ·rw[es];intro q;exact absurd rfl q
 refine⟨m5,?_,Y,h5',h.one (S':=S.FY s 0 []) (X':=Y) hs rfl rfl (by rw[hY,Hq]) (by rw[hY,Hq]) (by rw[hY,Hq];exact h.root) (by rw[hY,Hq];exact h.slot) (λt ht=>⟨S.Gb 0 _ ht,rfl,?_,?_,?_,?_⟩) (λ_ _=>rfl) (λq hq=> ?_) (λg hg=> ?_) Ng hz.2.2.1⟩
 ·unfold qT;have e2':m1.mark (ax m s) 1024 7=some m2:=by rw[Qx];exact e2
  rw[xc,show ax m s=A from Qx,e1,Fj,e2,Fj,e3,Fj,e4,Fj,e5]
 ·rw[hY,Hq];exact af _ _ ht
 ·rw[hY,Hq];exact af _ _ ht
 ·rw[hY,Hq];exact af _ _ ht
 ·rw[hY,Hq];show Fv (Fv X.ln s none) s (some 0) t=X.ln t;rw[af _ _ ht,af _ _ ht]
 ·rw[<-hA]at hq;rw[Qy,if_neg (by omega)]
 ·rw[<-hA]at hg;rw[Qz,if_neg (by omega)]
def Fw.Gi(S:Fw)(s a:Nat):Fw:=if(S.sl s).free.length+1=ai (S.sl s).Ft then {S.FY s 0 []with ob:=Fv S.ob a none}else {S.FD s (a::(S.sl s).free)with ob:=Fv S.ob a none}
theorem D8(h:aQ S X)(hm:Is X.lo m)(w:Wf S){a s i:Nat}(ha:S.At a s i)(hf:a∉(S.sl s).free)(Km:S.out s=false):∃m',jf a m=some m'/\NM (S.Gi s a) m':=by
 have hs:=ha.1;have hk:=h.sl s hs;have hz:=h.Hk hm;have IY:=hk.c9;obtain⟨b1,b2,b3,b4,b5,b6,b7,b8,b9⟩:=h.MV hm ha;have GU:=ha.R4 IY;have Rt:s<X.Fq:=by rw[h.Fq];exact hs
 have FR:=w.lt s hs (by omega);have Hb:=(Nq _ b1 b2).2.2.2.1;have QX:=hk.live;have hfz:X.free s=0↔(S.sl s).free= []:=by
  rw[hk.free];cases e:(S.sl s).free with
  |nil=>simp
  |cons b l=>
   obtain⟨j,hj⟩:=w.Nr s hs b (by rw[e];simp);have:=h.MV hm hj;have G7:=hz.2.2.2.1;simp;omega
 have hf32:X.free s<200000:=by
  rw[hk.free];cases e:(S.sl s).free with
  |nil=>simp
  |cons b l=>
   obtain⟨j,hj⟩:=w.Nr s hs b (by rw[e];simp);have:=h.MV hm hj;simp;omega
 have Kf:X.ln s=if(S.sl s).free= []then none else some (S.sl s).Ft:=by
  rw[hk.ln];unfold Fw.GY;rw[Km,if_neg (by decide),if_neg (by omega)]
 obtain⟨z,Vu⟩:=Fp (ae (S.sl s).Ft);obtain⟨m1,e1,h1⟩:=hm.R1 (a:=a) (n:=ae (S.sl s).Ft) (k:=5) (by decide) b3 b4 λg g1 g2=>by
  rw[<-Fw.GZ hf];exact h.kd hm ha (o:=0) (n:=ae (S.sl s).Ft) (by omega) g (by simpa using g1) (by simpa using g2)
 obtain⟨m2,e2,h2⟩:=h1.KG (a:=a) (n:=ae (S.sl s).Ft) (k:=6) (by show X.lo.base<=a;exact b3) (by show _<=X.lo.size;exact b4) (by omega) (by omega) (by decide);obtain⟨X2,Hq⟩:∃X2:Hp,X2= {X with byte:=λq=>if a<=q/\q<a+ae (S.sl s).Ft then 0 else X.byte q,kind:=λg=>if a/4<=g/\g<(a+ae (S.sl s).Ft)/4 then 6 else X.kind g}:=⟨_,rfl⟩;have h2':Is X2.lo m2:=by rw[Hq];exact h2
 obtain⟨m3,X3,e3,h3,Ht⟩:∃m3,∃X3:Hp,(if X.free s=0 then oF (S.sl s).Ft s m2 else some m2)=some m3/\Is X3.lo m3/\X3= {X2 with ln:=Fv X.ln s (some (S.sl s).Ft)}:=by
  by_cases c:X.free s=0
  ·obtain⟨m3,e3,h3⟩:=Lu h2' (c:=(S.sl s).Ft) (s:=s) b2 (by rw[Hq];exact Rt) (by rw[Hq];show X.ln s=none;rw[Kf,if_pos (hfz.1 c)]);exact⟨m3,_,by rw[if_pos c,e3],h3,by rw[Hq]⟩
  ·refine⟨m2,X2,by rw[if_neg c],h2',?_⟩;have:Fv X.ln s (some (S.sl s).Ft)=X2.ln:=by
    funext t;rw[Hq];by_cases q:t=s
    ·rw[q,ak,Kf,if_neg λe=>c (hfz.2 e)]
    ·rw[af _ _ q]
   rw[this]
 obtain⟨m4,e4,h4⟩:=yJ h3 (a:=a) (f:=X.free s) (by omega) b5 (by rw[Ht,Hq];exact b3) (by rw[Ht,Hq];show _<=X.lo.size;omega) λg g1 g2=>by
  rw[Ht,Hq];show(if a/4<=g/\g<(a+ae (S.sl s).Ft)/4 then 6 else X.kind g)=6;rw[if_pos (by omega)]
 obtain⟨m5,e5,h5⟩:=oy h4 (s:=s) (c:=(S.sl s).Ft) (l:=X.live s-1) (f:=a) (by rw[Ht,Hq];exact Rt) b2 (by omega) (by omega);obtain⟨Y,hY⟩:∃Y:Hp,Y= {X3 with byte:=λq=>if a<=q/\q<a+8 then cN (X.free s) (q-a)else X3.byte q,Ft:=Fv X3.Ft s (S.sl s).Ft,live:=Fv X3.live s (X.live s-1),free:=Fv X3.free s a}:=⟨_,rfl⟩;have h5':Is Y.lo m5:=by rw[hY];exact h5
 have Qy:∀q,Y.byte q=if a<=q/\q<a+8 then cN (X.free s) (q-a)else if a<=q/\q<a+ae (S.sl s).Ft then 0 else X.byte q:=λq=>by rw[hY,Ht,Hq]
 have Qz:∀g,Y.kind g=if a/4<=g/\g<(a+ae (S.sl s).Ft)/4 then 6 else X.kind g:=λg=>by rw[hY,Ht,Hq]
 have hyl:Y.live s=X.live s-1:=by rw[hY];exact ak _ _ _
 obtain⟨T,hT⟩:∃T:Fw,T= {S.FD s (a::(S.sl s).free)with ob:=Fv S.ob a none}:=⟨_,rfl⟩;have es:T.sl s=⟨(S.sl s).Ft,a::(S.sl s).free⟩:=by rw[hT];exact S.FX s _
 have Qx:T.sa s=S.sa s:=by rw[hT];rfl
 have Yw:∀j,T.ba s j=S.ba s j:=λj=>by unfold Fw.ba;rw[es,Qx]
 have Ng:nE T Y s:=by
  refine⟨by rw[es];exact b2,?_,?_,?_,?_,?_,?_,?_⟩
  ·rw[es,hY];exact ak _ _ _
  ·rw[es,hyl];show X.live s-1+((S.sl s).free.length+1)=ai (S.sl s).Ft;omega
  ·rw[es,hY];exact ak _ _ _
  ·rw[hY,Ht];show Fv X.ln s (some (S.sl s).Ft) s=_;rw[ak];unfold Fw.GY;rw[es];have ho:T.out s=false:=by rw[hT];exact Km
   rw[ho,if_neg (by decide),if_neg (by show¬(S.sl s).Ft=0;omega),if_neg (by simp)]
  ·rw[es];intro q;have:(S.sl s).Ft=0:=q;omega
  ·intro j hj o ho;rw[es]at hj ho;have O1:o<ae (S.sl s).Ft:=ho;have GG:S.At (S.ba s j) s j:=⟨hs,hj,rfl⟩;have hbj:=h.MV hm GG;rw[Yw,Qy,Qz];unfold Fw.bb Fw.kk;rw[es];show _=(if S.ba s j∈a::(S.sl s).free then cN (Ig (a::(S.sl s).free) (S.ba s j)) o else match T.ob (S.ba s j)with|none=>0|some x=>bz x o)/\_=if S.ba s j∈a::(S.sl s).free then 6 else 5
   by_cases e:S.ba s j=a
   ·have Yt:a∈a::(S.sl s).free:=by simp
    simp only [e,Yt,if_true,lE];rw[<-hk.free];refine⟨?_,if_pos (by omega)⟩;show(if a<=a+o/\a+o<a+8 then cN (X.free s) (a+o-a)else if a<=a+o/\a+o<a+ae (S.sl s).Ft then 0 else X.byte (a+o))=cN (X.free s) o;by_cases c:o<8
    ·rw[if_pos (by omega),Nat.add_sub_cancel_left]
    ·rw[if_neg (by omega),if_pos (by omega),cN,if_neg (by omega)]
   ·have hap:=ha.apart GG b2 b2 (λq=>e q.symm);have VQ:S.ba s j∈a::(S.sl s).free↔S.ba s j∈(S.sl s).free:=by rw[List.mem_cons];exact⟨λq=>q.resolve_left e,.inr⟩
    have q1:¬(a<=S.ba s j+o/\S.ba s j+o<a+8):=by omega
    have q2:¬(a<=S.ba s j+o/\S.ba s j+o<a+ae (S.sl s).Ft):=by omega
    have q3:¬(a/4<=(S.ba s j+o)/4/\(S.ba s j+o)/4<(a+ae (S.sl s).Ft)/4):=by omega
    have Pe:T.ob (S.ba s j)=S.ob (S.ba s j):=by rw[hT];exact af _ _ e
    rw[if_neg q1,if_neg q2,if_neg q3,h.JP GG O1,(hk.b j hj o ho).2,Pe];unfold Fw.bb Fw.kk;by_cases c:S.ba s j∈(S.sl s).free
    ·simp only [VQ.2 c,c,if_true,pY (λq=>e q.symm)];exact⟨trivial,trivial⟩
    ·have c':¬S.ba s j∈a::(S.sl s).free:=λq=>c (VQ.1 q);simp only [c,c',if_false];exact⟨by first|rfl|trivial,trivial⟩
  ·rw[es,Qx];intro c0 r r1 r2;have h3:(i+1)*ae (S.sl s).Ft<=ai (S.sl s).Ft*ae (S.sl s).Ft:=Nat.mul_le_mul_right _ ha.2.1;rw[Nat.add_mul,Nat.one_mul,Nat.mul_comm (ai _)]at h3;have e2:=ha.2.2;unfold Fw.ba at e2;have r1':ae (S.sl s).Ft*ai (S.sl s).Ft<=r:=r1;have q1:¬(a<=S.sa s+r/\S.sa s+r<a+8):=by omega
   have q2:¬(a<=S.sa s+r/\S.sa s+r<a+ae (S.sl s).Ft):=by omega
   have q3:¬(a/4<=(S.sa s+r)/4/\(S.sa s+r)/4<(a+ae (S.sl s).Ft)/4):=by
    have:(S.sa s+ae (S.sl s).Ft*ai (S.sl s).Ft)%4=0:=by
     have:=(Nq _ b1 b2).2.2.2.2.2.2.2;unfold Fw.sa;omega
    omega
   rw[Qy,Qz,if_neg q1,if_neg q2,if_neg q3];exact hk.p (by omega) r r1 r2
 have hfit:aQ T Y:=h.one (S':=T) (X':=Y) hs (by rw[hT];rfl) (by rw[hT];rfl) (by rw[hY,Ht,Hq]) (by rw[hY,Ht,Hq]) (by rw[hY,Ht,Hq,hT];exact h.root) (by rw[hY,Ht,Hq,hT];exact h.slot)
  (λt ht=>⟨by rw[hT];exact S.FU _ ht,by rw[hT];rfl,by rw[hY,Ht,Hq];exact af _ _ ht,by rw[hY,Ht,Hq];exact af _ _ ht,by rw[hY,Ht,Hq];exact af _ _ ht,by rw[hY,Ht,Hq];exact af _ _ ht⟩)
  (λq hq=>by rw[hT];exact af _ _ (by omega)) (λq hq=>by rw[Qy,if_neg (by omega),if_neg (by omega)]) (λg hg=>by rw[Qz,if_neg (by omega)]) Ng hz.2.2.1
 have TB:jf a m=(if X.live s-1=0 then qT s ⟨X.Ft s,0,a,X.next s,X.prev s⟩ m5 else some m5):=by
  have hka:m.FH a (ae (S.sl s).Ft)=5:=by rw[h.FH hm ha (by omega) (Fm _),Fw.GZ hf]
  unfold jf;rw[vI h hm ha,Fj];dsimp only;rw[if_neg (λe=>e rfl),kw hm Rt,Fj];dsimp only;rw[hk.Ft,if_neg (by rw[hka];exact λe=>e rfl),e1,Fj,e2,Fj,e3,Fj,e4,Fj,if_neg (by omega),e5,Fj]
 rw[TB];unfold Fw.Gi;by_cases c:X.live s-1=0
 ·rw[if_pos c,if_pos (by omega)];have hall:∀j,j<ai (T.sl s).Ft->T.ba s j∈(T.sl s).free:=by
   rw[es];intro j hj;rw[Yw];refine pZ (λj=>S.ba s j) (ai (S.sl s).Ft) (a::(S.sl s).free) (List.nodup_cons.2 ⟨hf,w.nodup s hs⟩) (λb hb=> ?_) (by rw[List.length_cons];omega) j hj;rcases List.mem_cons.1 hb with e|e
   ·exact⟨i,ha.2.1,e.trans ha.2.2⟩
   ·obtain⟨j,hj⟩:=w.Nr s hs b e;exact⟨j,hj.2.1,hj.2.2⟩
  obtain⟨m6,e6,h6⟩:=D7 hfit h5' (s:=s) (by rw[hT];exact hs) (by rw[es];exact b1) hall (by rw[hT];exact Km) ⟨X.Ft s,0,a,X.next s,X.prev s⟩ (by
   rw[hY,Ht,Hq];show X.Ft s=Fv X.Ft s (S.sl s).Ft s;rw[ak,hk.Ft])
  refine⟨m6,e6,?_⟩;have e7:T.FY s 0 []= {S.FY s 0 []with ob:=Fv S.ob a none}:=by
   have:Fv T.sl s ⟨0,[]⟩=Fv S.sl s ⟨0,[]⟩:=by
    funext t;by_cases q:t=s
    ·rw[q,ak,ak]
    ·rw[af _ _ q,af _ _ q,hT];exact S.FU _ q
   unfold Fw.FY;rw[this,hT];rfl
  rw[<-e7];exact h6
 ·rw[if_neg c,if_neg (by omega),<-hT];exact⟨m5,rfl,Y,h5',hfit⟩
end
theorem fU{n h d:Nat}(hh:h<n)(hd:d<n):(h+d)%n=if h+d<n then h+d else h+d-n:=by
 split
 ·exact Nat.mod_eq_of_lt (by assumption)
 ·rw[Nat.mod_eq_sub_mod (by omega),Nat.mod_eq_of_lt (by omega)]
theorem dj{n i:Nat}(hn:0<n):(i+1)%n=if i%n+1=n then 0 else i%n+1:=by
 have h1:=Nat.mod_lt i hn;by_cases h2:n=1
 ·subst h2;rw[Nat.mod_one,Nat.mod_one];rfl
 ·rw[Nat.add_mod,Nat.mod_eq_of_lt (show 1<n by omega),fU h1 (by omega)]
  repeat' split
  all_goals omega
theorem EN{n i j:Nat}(h1:i<j)(h2:j<i+n):i%n≠j%n:=by
 intro e;have hn:0<n:=by omega
 have a1:=Nat.div_add_mod i n;have a2:=Nat.div_add_mod j n;rcases Nat.lt_trichotomy (i/n) (j/n)with h|h|h
 ·have:n*(i/n+1)<=n*(j/n):=Nat.mul_le_mul_left _ h;rw[Nat.mul_add,Nat.mul_one]at this;omega
 ·rw[h]at a1;omega
 ·have:n*(j/n+1)<=n*(i/n):=Nat.mul_le_mul_left _ h;rw[Nat.mul_add,Nat.mul_one]at this;omega
def ds(n:Nat)(T H:Nat->Nat)(i:Nat):Nat:=if i%n<H (T (i%n))then i%n+n-H (T (i%n))else i%n-H (T (i%n))
structure Rh(n:Nat)(T H:Nat->Nat):Prop where
 np:2<=n
 hl:∀i,T (i%n)≠0->H (T (i%n))<n
 st:∀i,T ((i+1)%n)≠0->0<ds n T H (i+1)->T (i%n)≠0/\ds n T H (i+1)<=ds n T H i+1
 inj:∀i j,i<n->j<n->T i≠0->T i=T j->i=j
 full:(∀i,i<n->T i≠0)->∃i,i<n/\ds n T H i=0
section
variable{n:Nat}{T H:Nat->Nat}
theorem ev{i j:Nat}(h:i%n=j%n):ds n T H i=ds n T H j:=by unfold ds;rw[h]
theorem Rh.Oa(h:Rh n T H){i:Nat}(hi:T (i%n)≠0):ds n T H i<n:=by
 have h1:=h.hl i hi;have h2:=Nat.mod_lt i (show 0<n by have:=h.np;omega);unfold ds;split<;>omega
theorem Rh.KI(h:Rh n T H){i:Nat}(hi:T (i%n)≠0):(H (T (i%n))+ds n T H i)%n=i%n:=by
 have h1:=h.hl i hi;have h2:=Nat.mod_lt i (show 0<n by have:=h.np;omega);rw[fU h1 (h.Oa hi)];unfold ds
 repeat' split
 all_goals omega
theorem Rh.chain(h:Rh n T H){i:Nat}(hi:T (i%n)≠0):∀k d,d+k=ds n T H i->T ((H (T (i%n))+d)%n)≠0/\d<=ds n T H (H (T (i%n))+d)
 |0,d,e=>by
  have e1:=h.KI hi;rw[<-e,Nat.add_zero]at e1;rw[e1,ev e1];exact⟨hi,by omega⟩
 |k+1,d,e=>by
  obtain⟨h1,h2⟩:=h.chain hi k (d+1) (by omega);rw[<-Nat.add_assoc]at h1 h2;obtain⟨h3,h4⟩:=h.st _ h1 (by omega);exact⟨h3,by omega⟩
end
def Fw.hash(S:Fw)(a:Nat):Nat:=match S.ob a with
 |none=>0
 |some x=>x.b.hash
def Fw.hm(S:Fw)(a:Nat):Nat:=S.hash a%S.slots
structure Ix(S:Fw):Prop where
 rh:Rh S.slots S.slot S.hm
 there:∀i,i<S.slots->S.slot i≠0->∃x,S.ob (S.slot i)=some x
section
variable{S:Fw}{X:Hp}{m:Mm}
theorem Fw.Jh{a:Nat}{x:Ob}(h:S.ob a=some x):S.hash a=x.b.hash:=by unfold Fw.hash;rw[h]
theorem dk(h:aQ S X)(hm:Is X.lo m)(i:Nat):dE i m=some (S.slot (i%S.slots)):=by
 have hz:=h.Hk hm;rw[hm.Xh i];show some (X.slot (i%X.slots))=_;rw[h.slots,h.slot _ (Nat.mod_lt _ (by omega))]
theorem eM(h:aQ S X)(hm:Is X.lo m)(i:Nat){v:Nat}(hv:v<4294967296):∃m',cG i v m=some m'/\NM {S with slot:=Fv S.slot (i%S.slots) v} m':=by
 obtain⟨m',e,h1⟩:=hm.Rr i hv;refine⟨m',e, {X with slot:=Fv X.slot (i%X.slots) v},h1,h.Fq,h.slots,h.root,λj hj=> ?_,λs hs=> ?_⟩
 ·show Fv X.slot (i%X.slots) v j=Fv S.slot (i%S.slots) v j;rw[h.slots];unfold Fv;split
  ·rfl
  ·exact h.slot j hj
 ·have:=h.sl s hs;exact⟨this.c9,this.Ft,this.live,this.free,this.ln,this.z,this.b,this.p⟩
theorem fV(h:aQ S X)(hm:Is X.lo m)(w:Wf S){a:Nat}{x:Ob}(hx:S.ob a=some x):kK a m=some (S.hash a):=by
 unfold kK;rw[CP h hm w hx (by decide),Fw.Jh hx];rfl
theorem fW(h:aQ S X)(hm:Is X.lo m):m.slots=S.slots:=hm.slots.trans h.slots
theorem D9(h:aQ S X)(hm:Is X.lo m)(w:Wf S)(ix:Ix S)(i:Nat)(hi:S.slot (i%S.slots)≠0):wy i m=some (ds S.slots S.slot S.hm i):=by
 have hn:0<S.slots:=by have:=ix.rh.np;omega
 obtain⟨x,hx⟩:=ix.there _ (Nat.mod_lt i hn) hi;unfold wy;rw[dk h hm,Fj,fV h hm w hx,Fj,fW h hm];rfl
theorem kx(h:aQ S X)(hm:Is X.lo m)(w:Wf S)(ix:Ix S)(i d:Nat):mG i d m=some (decide (S.slot (i%S.slots)=0\/ds S.slots S.slot S.hm i<d)):=by
 unfold mG;rw[dk h hm,Fj];by_cases c:S.slot (i%S.slots)=0
 ·rw[if_pos c,decide_eq_true (.inl c)]
 ·rw[if_neg c,D9 h hm w ix i c,Fj];by_cases c2:ds S.slots S.slot S.hm i<d
  ·rw[decide_eq_true c2,decide_eq_true (.inr c2)]
  ·rw[decide_eq_false c2,decide_eq_false (by omega)]
theorem qa(h:aQ S X)(hm:Is X.lo m)(w:Wf S)(ix:Ix S){i:Nat}(hi:i<S.slots)(h0:S.slot i≠0)(is:Nat->Option Bool)(ht:is (S.slot i)=some true)(hf:∀j,j<S.slots->S.slot j≠0->j≠i->is (S.slot j)=some false):
  ∀k d,d+k=ds S.slots S.slot S.hm i->∀f,k<f->dF m (S.hm (S.slot i)) is f d=some (some i)
 |0,d,e,f,hk=>by
  obtain⟨f,rfl⟩:∃g,f=g+1:=⟨f-1,by omega⟩;have Jr:i%S.slots=i:=Nat.mod_eq_of_lt hi;have e1:=ix.rh.KI (i:=i) (by rw[Jr];exact h0);have hl:=ix.rh.Oa (i:=i) (by rw[Jr];exact h0);rw[Jr,<-e,Nat.add_zero]at e1;rw[dF,fW h hm,if_neg (by omega),kx h hm w ix,Fj,e1,ev (j:=i) (by rw[e1,Jr]),decide_eq_false (by omega),if_neg (by decide),dk h hm,Fj,e1,ht,Fj,if_pos rfl]
 |k+1,d,e,f,hk=>by
  obtain⟨f,rfl⟩:∃g,f=g+1:=⟨f-1,by omega⟩;have Jr:i%S.slots=i:=Nat.mod_eq_of_lt hi;have hn:0<S.slots:=by omega
  have hl:=ix.rh.Oa (i:=i) (by rw[Jr];exact h0);have e1:=ix.rh.KI (i:=i) (by rw[Jr];exact h0);obtain⟨c1,c2⟩:=ix.rh.chain (i:=i) (by rw[Jr];exact h0) (k+1) d e;rw[Jr]at c1 c2 e1;have hne:(S.hm (S.slot i)+d)%S.slots≠i:=λq=>by
   have:=EN (n:=S.slots) (i:=S.hm (S.slot i)+d) (j:=S.hm (S.slot i)+ds S.slots S.slot S.hm i) (by omega) (by omega);rw[e1]at this;exact this q
  rw[dF,fW h hm,if_neg (by omega),kx h hm w ix,Fj,decide_eq_false (by omega),if_neg (by decide),dk h hm,Fj,hf _ (Nat.mod_lt _ hn) c1 hne,Fj,if_neg (by decide)];exact qa h hm w ix hi h0 is ht hf k (d+1) (by omega) f (by omega)
theorem so(h:aQ S X)(hm:Is X.lo m)(w:Wf S)(ix:Ix S){i:Nat}(hi:i<S.slots)(h0:S.slot i≠0)(is:Nat->Option Bool)(ht:is (S.slot i)=some true)(hf:∀j,j<S.slots->S.slot j≠0->j≠i->is (S.slot j)=some false){q:Nat}(hq:q%S.slots=S.hm (S.slot i)):
  lN q is m=some (some i):=by
 have Jr:i%S.slots=i:=Nat.mod_eq_of_lt hi;have hl:=ix.rh.Oa (i:=i) (by rw[Jr];exact h0);unfold lN;rw[fW h hm,hq];exact qa h hm w ix hi h0 is ht hf _ 0 (Nat.zero_add _) _ (by omega)
theorem qd(h:aQ S X)(hm:Is X.lo m)(w:Wf S)(ix:Ix S)(is:Nat->Option Bool)(hf:∀j,j<S.slots->S.slot j≠0->is (S.slot j)=some false)(q:Nat):∀f d,d+f=S.slots+1->0<f->dF m q is f d=some none
 |0,d,_,h0=>by omega
 |f+1,d,e,_=>by
  have hn:0<S.slots:=by have:=ix.rh.np;omega
  rw[dF,fW h hm];by_cases c:d=S.slots
  ·rw[if_pos c]
  ·rw[if_neg c,kx h hm w ix,Fj];by_cases c2:S.slot ((q+d)%S.slots)=0\/ds S.slots S.slot S.hm (q+d)<d
   ·rw[decide_eq_true c2,if_pos rfl]
   ·rw[decide_eq_false c2,if_neg (by decide),dk h hm,Fj,hf _ (Nat.mod_lt _ hn) (by omega),Fj,if_neg (by decide)];exact qd h hm w ix is hf q f (d+1) (by omega) (by omega)
theorem sq(h:aQ S X)(hm:Is X.lo m)(w:Wf S)(ix:Ix S)(is:Nat->Option Bool)(hf:∀j,j<S.slots->S.slot j≠0->is (S.slot j)=some false)(q:Nat):lN q is m=some none:=by
 unfold lN;rw[fW h hm];exact qd h hm w ix is hf _ _ 0 (by omega) (by omega)
theorem Ji(h:aQ S X)(hm:Is X.lo m)(w:Wf S)(ix:Ix S){i:Nat}(hi:i<S.slots)(h0:S.slot i≠0)(is:Nat->Option Bool)(ht:is (S.slot i)=some true)(hf:∀j,j<S.slots->S.slot j≠0->j≠i->is (S.slot j)=some false){q:Nat}(hq:q%S.slots=S.hm (S.slot i)):
  eN q is m=some (S.slot i):=by
 unfold eN;rw[so h hm w ix hi h0 is ht hf hq,Fj];show dE i m=_;rw[dk h hm,Nat.mod_eq_of_lt hi]
theorem Jj(h:aQ S X)(hm:Is X.lo m)(w:Wf S)(ix:Ix S)(is:Nat->Option Bool)(hf:∀j,j<S.slots->S.slot j≠0->is (S.slot j)=some false)(q:Nat):eN q is m=some 0:=by
 unfold eN;rw[sq h hm w ix is hf,Fj]
theorem qe(h:aQ S X)(hm:Is X.lo m)(w:Wf S)(ix:Ix S){i:Nat}(hi:i<S.slots)(h0:S.slot i≠0):iu (S.slot i) m=some (some i):=by
 obtain⟨x,hx⟩:=ix.there i hi h0;unfold iu;rw[fV h hm w hx,Fj];refine so h hm w ix hi h0 _ (by simp) (λj hj hj0 hne=> ?_) rfl;congr 1;exact Tr.I0 λe=>hne (ix.rh.inj j i hj hi hj0 e)
theorem xy(h:aQ S X)(hm:Is X.lo m)(w:Wf S)(ix:Ix S){a:Nat}{x:Ob}(hx:S.ob a=some x)(hn:∀j,j<S.slots->S.slot j≠a):iu a m=some none:=by
 unfold iu;rw[fV h hm w hx,Fj];exact sq h hm w ix _ (λj hj _=>by congr 1;exact Tr.I0 (hn j hj)) _
theorem ie(h:aQ S X)(hm:Is X.lo m)(w:Wf S){a:Nat}{x:Ob}(hx:S.ob a=some x):eZ a m=some ():=by
 obtain⟨s,i,ha,GF,GI,F4⟩:=w.ob a x hx;unfold eZ;rw[tC h hm w hx,Fj,if_pos ⟨rfl,by rcases F4.tag with e|e<;>rw[e]<;>decide⟩]
end
def off(n t i:Nat):Nat:=if t%n<=i%n then i%n-t%n else i%n+n-t%n
theorem gL{n:Nat}(hn:0<n)(t i:Nat):off n t i<n:=by
 have h1:=Nat.mod_lt t hn;have h2:=Nat.mod_lt i hn;unfold off;split<;>omega
theorem bN{n:Nat}(hn:0<n)(t i:Nat):(t+off n t i)%n=i%n:=by
 have h1:=Nat.mod_lt t hn;have h2:=Nat.mod_lt i hn;have h3:=gL hn t i;rw[Nat.add_mod,Nat.mod_eq_of_lt h3,fU h1 h3];unfold off
 repeat' split
 all_goals omega
theorem iP{n:Nat}(hn:0<n)(t:Nat){i d:Nat}(hd:d<n)(e:(t+d)%n=i%n):off n t i=d:=by
 have h1:=Nat.mod_lt t hn;rw[Nat.add_mod,Nat.mod_eq_of_lt hd,fU h1 hd]at e;unfold off;rw[<-e]
 repeat' split
 all_goals omega
theorem fX{n:Nat}(hn:0<n)(t i:Nat):off n t (i+1)=if off n t i+1=n then 0 else off n t i+1:=by
 have h1:=Nat.mod_lt t hn;have h2:=Nat.mod_lt i hn;unfold off;rw[dj hn]
 repeat' split
 all_goals omega
theorem qf{n:Nat}(t:Nat):off n t t=0:=by unfold off;rw[if_pos (Fm _),Nat.sub_self]
theorem aV{n t i j:Nat}(h:i%n=j%n):off n t i=off n t j:=by unfold off;rw[h]
theorem yK{n:Nat}(hn:0<n){t i j:Nat}(h:off n t i=off n t j):i%n=j%n:=by rw[<-bN hn t i,<-bN hn t j,h]
theorem kA{n i:Nat}(hn:0<n):(i+n-1+1)%n=i%n:=by rw[show i+n-1+1=i+n by omega,Nat.add_mod_right]
section
variable{n a t g d:Nat}{T H:Nat->Nat}
def iQ(n:Nat)(T:Nat->Nat)(a t g:Nat):Nat->Nat:=λi=>if i<n/\off n t i=0 then a else if i<n/\off n t i<=g then T ((i+n-1)%n)else T i
structure cQ(n:Nat)(T H:Nat->Nat)(a t g d:Nat):Prop where
 a0:a≠0
 an:∀j,j<n->T j≠a
 ha:H a<n
 dn:d<n
 tt:t=H a+d
 be:∀c,c<d->T ((H a+c)%n)≠0/\c<=ds n T H (H a+c)
 en:T (t%n)=0\/ds n T H t<d
 gn:g<n
 U2:T ((t+g)%n)=0
 ng:∀j,j<g->T ((t+j)%n)≠0
theorem cQ.lt(k:cQ n T H a t g d)(h:Rh n T H){i:Nat}(hi:T (i%n)≠0):ds n T H i+1<n:=by
 have h0:=h.Oa hi;by_cases e:ds n T H i+1=n
 ·exfalso;have hn:0<n:=by omega
  have hh:=h.hl i hi;have h1:=gL hn (H (T (i%n))) (t+g);have h2:=bN hn (H (T (i%n))) (t+g);obtain⟨h3,_⟩:=h.chain hi (ds n T H i-off n (H (T (i%n))) (t+g)) (off n (H (T (i%n))) (t+g)) (by omega);rw[h2]at h3;exact h3 k.U2
 ·omega
theorem nF{i:Nat}(h0:off n t i=0)(hn:0<n):iQ n T a t g (i%n)=a:=by
 have e:off n t (i%n)=off n t i:=aV (Nat.mod_mod _ _);unfold iQ;rw[if_pos ⟨Nat.mod_lt _ hn,by rw[e];exact h0⟩]
theorem nG{i:Nat}(h0:1<=off n t i)(h1:off n t i<=g)(hn:0<n):iQ n T a t g (i%n)=T ((i+n-1)%n):=by
 have e:off n t (i%n)=off n t i:=aV (Nat.mod_mod _ _);unfold iQ;rw[if_neg (by rw[e];omega),if_pos ⟨Nat.mod_lt _ hn,by rw[e];exact h1⟩];congr 1;have h2:=Nat.mod_lt i hn;rw[show i%n+n-1=i%n+(n-1)by omega,show i+n-1=i+(n-1)by omega,Nat.mod_add_mod]
theorem iR{i:Nat}(h0:g<off n t i)(hn:0<n):iQ n T a t g (i%n)=T (i%n):=by
 have e:off n t (i%n)=off n t i:=aV (Nat.mod_mod _ _);unfold iQ;rw[if_neg (by rw[e];omega),if_neg (by rw[e];omega)]
theorem CZ{T':Nat->Nat}{i j:Nat}(hT:T' (i%n)=T (j%n))(hi:i%n=j%n):ds n T' H i=ds n T H j:=by unfold ds;rw[hT,hi]
theorem cQ.ds0(k:cQ n T H a t g d)(hn:0<n){i:Nat}(h0:off n t i=0):ds n (iQ n T a t g) H i=d:=by
 have e1:=bN hn t i;rw[h0,Nat.add_zero]at e1;have h1:=k.ha;have h2:=k.dn;have h3:=Nat.mod_lt i hn;have e2:i%n=if H a+d<n then H a+d else H a+d-n:=by rw[<-e1,k.tt,fU h1 h2]
 unfold ds;rw[nF h0 hn,e2]
 repeat' split
 all_goals omega
theorem cQ.ds1(k:cQ n T H a t g d)(h:Rh n T H){i:Nat}(h0:1<=off n t i)(h1:off n t i<=g)(hT:T ((i+n-1)%n)≠0):ds n (iQ n T a t g) H i=ds n T H (i+n-1)+1:=by
 have hn:0<n:=by have:=h.np;omega
 have hl:=k.lt h hT;have hd:=h.KI hT;have hh:=h.hl _ hT;have h3:=Nat.mod_lt i hn;have e:i%n=(H (T ((i+n-1)%n))+(ds n T H (i+n-1)+1))%n:=by
  have e4:i%n=(i+n-1+1)%n:=(kA hn).symm;rw[e4,dj hn,<-Nat.add_assoc,dj hn,hd]
 rw[fU hh hl]at e;have e3:ds n (iQ n T a t g) H i=if i%n<H (T ((i+n-1)%n))then i%n+n-H (T ((i+n-1)%n))else i%n-H (T ((i+n-1)%n)):=by
  unfold ds;rw[nG h0 h1 hn]
 rw[e3,e]
 repeat' split
 all_goals omega
theorem cQ.ds2(hn:0<n){i:Nat}(h0:g<off n t i):ds n (iQ n T a t g) H i=ds n T H i:=CZ (iR h0 hn) rfl
theorem cQ.prev(hn:0<n){t i:Nat}(h1:1<=off n t i):(i+n-1)%n=(t+(off n t i-1))%n/\off n t (i+n-1)=off n t i-1:=by
 have h2:=gL hn t i;have h3:off n t (i+n-1+1)=off n t i:=aV (kA hn);rw[fX hn]at h3;have h4:off n t (i+n-1)=off n t i-1:=by
  revert h3;split
  ·omega
  ·omega
 refine⟨?_,h4⟩;rw[<-h4,bN hn]
theorem cQ.rh(k:cQ n T H a t g d)(h:Rh n T H):Rh n (iQ n T a t g) H:=by
 have hn:0<n:=by have:=h.np;omega
 have ML:=h.np;have Ti:=k.gn;have Ny:∀i,off n t i+1=n->0<d->T (i%n)≠0/\d<=ds n T H i+1/\g<off n t i:=by
  intro i e hd;have e1:i%n=(H a+(d-1))%n:=by
   have h1:=bN hn t i;have h2:=k.tt;rw[<-h1,show t+off n t i=H a+(d-1)+n by omega,Nat.add_mod_right]
  obtain⟨b1,b2⟩:=k.be (d-1) (by omega);rw[<-e1]at b1;rw[<-ev e1]at b2;refine⟨b1,by omega,?_⟩;by_cases q:g<off n t i
  ·exact q
  ·exfalso;have:g=off n t i:=by omega
   have h2:=k.U2;rw[this,bN hn]at h2;exact b1 h2
 refine⟨h.np,?_,?_,?_,?_⟩
 ·intro i hi;by_cases c0:off n t i=0
  ·rw[nF c0 hn];exact k.ha
  ·by_cases c1:off n t i<=g
   ·rw[nG (by omega) c1 hn]at hi⊢;exact h.hl _ hi
   ·rw[iR (by omega) hn]at hi⊢;exact h.hl _ hi
 ·intro i hi hp;have hs:=fX hn t i;by_cases c:off n t i+1=n
  ·rw[if_pos c]at hs;rw[k.ds0 hn hs]at hp⊢;obtain⟨b1,b2,b3⟩:=Ny i c hp;rw[iR b3 hn,cQ.ds2 hn b3];exact⟨b1,b2⟩
  ·rw[if_neg c]at hs;by_cases c1:off n t i+1<=g
   ·have e1:(i+1+n-1)%n=i%n:=by rw[show i+1+n-1=i+n by omega,Nat.add_mod_right]
    have hT:T (i%n)≠0:=by
     have:=k.ng (off n t i) (by omega);rw[bN hn]at this;exact this
    rw[k.ds1 h (by omega) (by omega) (by rw[e1];exact hT),ev e1];by_cases c0:off n t i=0
    ·rw[nF c0 hn,k.ds0 hn c0];have e2:=bN hn t i;rw[c0,Nat.add_zero]at e2;refine⟨k.a0,?_⟩;rcases k.en with e|e
     ·rw[e2]at e;exact absurd e hT
     ·rw[ev e2]at e;omega
    ·obtain⟨p1,p2⟩:=cQ.prev hn (t:=t) (i:=i) (by omega);have hT2:T ((i+n-1)%n)≠0:=by rw[p1];exact k.ng _ (by omega)
     rw[nG (by omega) (by omega) hn,k.ds1 h (by omega) (by omega) hT2];refine⟨hT2,?_⟩;by_cases c2:ds n T H i=0
     ·omega
     ·have e3:=kA (i:=i) hn;have:=(h.st (i+n-1) (by rw[e3];exact hT) (by rw[ev e3];omega)).2;rw[ev e3]at this;omega
   ·have c3:g<off n t (i+1):=by omega
    rw[iR c3 hn]at hi;rw[cQ.ds2 hn c3]at hp⊢;obtain⟨b1,b2⟩:=h.st i hi hp;by_cases c4:off n t i=g
    ·exfalso;have:=k.U2;rw[<-c4,bN hn]at this;exact b1 this
    ·rw[iR (by omega) hn,cQ.ds2 hn (by omega)];exact⟨b1,b2⟩
 ·intro i j hi hj h0 e;have Jr:i%n=i:=Nat.mod_eq_of_lt hi;have hjm:j%n=j:=Nat.mod_eq_of_lt hj;rw[<-Jr]at h0 e;rw[<-hjm]at e;have src:∀q,iQ n T a t g (q%n)≠0->off n t q=0/\iQ n T a t g (q%n)=a\/∃p,p<n/\iQ n T a t g (q%n)=T p/\T p≠a/\off n t p=(if off n t q<=g then off n t q-1 else off n t q)/\off n t q≠0/\off n t p≠g:=by
   intro q hq;by_cases c0:off n t q=0
   ·exact .inl ⟨c0,nF c0 hn⟩
   ·right;by_cases c1:off n t q<=g
    ·obtain⟨p1,p2⟩:=cQ.prev hn (t:=t) (i:=q) (by omega);refine⟨(q+n-1)%n,Nat.mod_lt _ hn,nG (by omega) c1 hn,k.an _ (Nat.mod_lt _ hn),?_,c0,?_⟩
     ·rw[aV (Nat.mod_mod _ _),p2,if_pos c1]
     ·rw[aV (Nat.mod_mod _ _),p2];omega
    ·refine⟨q%n,Nat.mod_lt _ hn,iR (by omega) hn,k.an _ (Nat.mod_lt _ hn),?_,c0,?_⟩
     ·rw[aV (Nat.mod_mod _ _),if_neg c1]
     ·rw[aV (Nat.mod_mod _ _)];omega
  have TC:iQ n T a t g (j%n)≠0:=by rw[<-e];exact h0
  have key:off n t i=off n t j:=by
   rcases src i h0 with⟨a1,a2⟩|⟨p,p1,p2,p3,p4,p5,p6⟩
   ·rcases src j TC with⟨b1,b2⟩|⟨q,q1,q2,q3,q4,q5,q6⟩
    ·omega
    ·exfalso;apply q3;rw[<-q2,<-e,a2]
   ·rcases src j TC with⟨b1,b2⟩|⟨q,q1,q2,q3,q4,q5,q6⟩
    ·exfalso;apply p3;rw[<-p2,e,b2]
    ·have e2:p=q:=h.inj p q p1 q1 (by rw[<-p2];exact h0) (by rw[<-p2,<-q2,e]);subst e2;rw[p4]at q4 p6;revert q4 p6
     repeat' split
     all_goals omega
  have:=yK hn key;rw[Jr,hjm]at this;exact this
 ·intro hall;by_cases c:g+1<n
  ·have e1:off n t (t+g)=g:=iP hn t Ti rfl;have e2:off n t (t+g+1)=g+1:=by rw[fX hn,e1,if_neg (by omega)]
   refine⟨(t+g+1)%n,Nat.mod_lt _ hn,?_⟩;rw[ev (Nat.mod_mod _ _),cQ.ds2 hn (by omega)];by_cases c2:ds n T H (t+g+1)=0
   ·exact c2
   ·exfalso;have h1:=hall _ (Nat.mod_lt (t+g+1) hn);rw[iR (by omega) hn]at h1;exact(h.st (t+g) h1 (by omega)).1 k.U2
  ·refine⟨t%n,Nat.mod_lt _ hn,?_⟩;rw[ev (Nat.mod_mod _ _),k.ds0 hn (qf t)];by_cases c2:d=0
   ·exact c2
   ·exfalso;obtain⟨b1,b2,b3⟩:=Ny (t+g) (by rw[iP hn t Ti rfl];omega) (by omega);exact b1 k.U2
theorem cQ.mem(k:cQ n T H a t g d)(hn:0<n)(v:Nat)(hv:v≠0):(∃i,i<n/\iQ n T a t g i=v)↔v=a\/∃i,i<n/\T i=v:=by
 have Ti:=k.gn;constructor
 ·rintro⟨i,hi,e⟩;have Jr:i%n=i:=Nat.mod_eq_of_lt hi;rw[<-Jr]at e;by_cases c0:off n t i=0
  ·rw[nF c0 hn]at e;exact .inl e.symm
  ·right;by_cases c1:off n t i<=g
   ·rw[nG (by omega) c1 hn]at e;exact⟨_,Nat.mod_lt _ hn,e⟩
   ·rw[iR (by omega) hn]at e;exact⟨_,Nat.mod_lt _ hn,e⟩
 ·rintro(e|⟨i,hi,e⟩)
  ·exact⟨t%n,Nat.mod_lt _ hn,by rw[nF (qf t) hn,e]⟩
  ·have Jr:i%n=i:=Nat.mod_eq_of_lt hi;by_cases c1:off n t i<g
   ·have h1:off n t (i+1)=off n t i+1:=by rw[fX hn,if_neg (by omega)]
    refine⟨(i+1)%n,Nat.mod_lt _ hn,?_⟩;rw[nG (by omega) (by omega) hn,show i+1+n-1=i+n by omega,Nat.add_mod_right,Jr,e]
   ·by_cases c2:off n t i=g
    ·exfalso;have:=k.U2;rw[<-c2,bN hn,Jr,e]at this;exact hv this
    ·refine⟨i%n,Nat.mod_lt _ hn,?_⟩;rw[iR (by omega) hn,Jr,e]
end
theorem Rh.congr{n:Nat}{T H H':Nat->Nat}(h:Rh n T H)(e:∀i,T (i%n)≠0->H (T (i%n))=H' (T (i%n))):Rh n T H':=by
 have hd:∀i,T (i%n)≠0->ds n T H' i=ds n T H i:=λi hi=>by unfold ds;rw[e i hi]
 refine⟨h.np,λi hi=>by rw[<-e i hi];exact h.hl i hi,λi hi hp=> ?_,h.inj,λhall=> ?_⟩
 ·rw[hd _ hi]at hp⊢;obtain⟨h1,h2⟩:=h.st i hi hp;rw[hd _ h1];exact⟨h1,h2⟩
 ·obtain⟨i,hi,h0⟩:=h.full hall;refine⟨i,hi,?_⟩;rw[hd i (by rw[Nat.mod_eq_of_lt hi];exact hall i hi)];exact h0
theorem Ix.congr{S S':Fw}(h:Ix S)(e1:S'.slots=S.slots)(e2:S'.slot=S.slot)(ho:∀a x,S.ob a=some x->(∃i,i<S.slots/\S.slot i=a)->∃x',S'.ob a=some x'/\x'.b.hash=x.b.hash):Ix S':=by
 have hn:0<S.slots:=by have:=h.rh.np;omega
 refine⟨?_,λi hi h0=> ?_⟩
 ·rw[e1,e2];refine h.rh.congr λi hi=> ?_;obtain⟨x,hx⟩:=h.there _ (Nat.mod_lt i hn) hi;obtain⟨x',GD,eh⟩:=ho _ x hx ⟨_,Nat.mod_lt i hn,rfl⟩;unfold Fw.hm;rw[Fw.Jh hx,Fw.Jh GD,eh,e1]
 ·rw[e1]at hi;rw[e2]at h0⊢;obtain⟨x,hx⟩:=h.there i hi h0;obtain⟨x',GD,_⟩:=ho _ x hx ⟨i,hi,rfl⟩;exact⟨x',GD⟩
section
variable{S:Fw}{X:Hp}{m:Mm}
def Fw.has(S:Fw)(v:Nat):Prop:=∃i,i<S.slots/\S.slot i=v
theorem yL(h:aQ S X)(hm:Is X.lo m)(fr:Nat):∀k i,i+k=S.slots->(∀j,j<i->S.slot ((fr+j)%S.slots)≠0)->(∃j,j<S.slots/\S.slot ((fr+j)%S.slots)=0)->
  ∃g,qB m fr i k=some (some g)/\g<S.slots/\S.slot ((fr+g)%S.slots)=0/\∀j,j<g->S.slot ((fr+j)%S.slots)≠0
 |0,i,e,hb,⟨j,hj,h0⟩=>absurd h0 (hb j (by omega))
 |k+1,i,e,hb,he=>by
  rw[qB,dk h hm,Fj];by_cases c:S.slot ((fr+i)%S.slots)=0
  ·rw[if_pos c];exact⟨i,rfl,by omega,c,hb⟩
  ·rw[if_neg c];exact yL h hm fr k (i+1) (by omega) (λj hj=>by
    by_cases q:j=i
    ·rw[q];exact c
    ·exact hb j (by omega)) he
theorem C3(h:aQ S X)(hm:Is X.lo m)(fr:Nat)(he:∃i,i<S.slots/\S.slot i=0):∃g,ze fr m=some (some g)/\g<S.slots/\S.slot ((fr+g)%S.slots)=0/\∀j,j<g->S.slot ((fr+j)%S.slots)≠0:=by
 obtain⟨i,hi,h0⟩:=he;have hn:0<S.slots:=by omega
 unfold ze;rw[fW h hm];refine yL h hm fr _ 0 (Nat.zero_add _) (λj hj=>by omega) ⟨off S.slots fr i,gL hn _ _,?_⟩;rw[bN hn,Nat.mod_eq_of_lt hi];exact h0
theorem sr(h:aQ S X)(hm:Is X.lo m)(w:Wf S)(ix:Ix S)(q:Nat):∀f d,d+f=S.slots+1->(∀c,c<d->S.slot ((q+c)%S.slots)≠0/\c<=ds S.slots S.slot S.hm (q+c))->(∃e,e<S.slots/\S.slot ((q+e)%S.slots)=0)->
  ∃d',gH m q f d=some (q+d')/\d'<S.slots/\(∀c,c<d'->S.slot ((q+c)%S.slots)≠0/\c<=ds S.slots S.slot S.hm (q+c))/\(S.slot ((q+d')%S.slots)=0\/ds S.slots S.slot S.hm (q+d')<d')
 |0,d,e,hb,⟨c,hc,h0⟩=>absurd h0 (hb c (by omega)).1
 |f+1,d,e,hb,he=>by
  rw[gH,kx h hm w ix,Fj];by_cases c:S.slot ((q+d)%S.slots)=0\/ds S.slots S.slot S.hm (q+d)<d
  ·rw[decide_eq_true c,if_pos rfl];refine⟨d,rfl,?_,hb,c⟩;obtain⟨e,he1,he2⟩:=he;by_cases q1:d<S.slots
   ·exact q1
   ·exact absurd he2 (hb e (by omega)).1
  ·rw[decide_eq_false c,if_neg (by decide)];exact sr h hm w ix q f (d+1) (by omega) (λj hj=>by
    by_cases q1:j=d
    ·subst q1;exact⟨λz=>c (.inl z),by omega⟩
    ·exact hb j (by omega)) he
def Xi(n:Nat)(T:Nat->Nat)(t g:Nat):Nat->Nat:=λi=>if i<n/\1<=off n t i/\off n t i<=g then T ((i+n-1)%n)else T i
theorem vK(t:Nat):∀(g:Nat) (S:Fw) (m:Mm),NM S m->Wf S->g<S.slots->(∀i,i<S.slots->S.slot i<4294967296)->∃m',iv t g m=some m'/\NM {S with slot:=Xi S.slots S.slot t g} m'
 |0,S,m,hr,w,hg,hb=>by
  refine⟨m,rfl,?_⟩;have e:Xi S.slots S.slot t 0=S.slot:=by
   funext i;unfold Xi;rw[if_neg (by omega)]
  rw[e];exact hr
 |g+1,S,m,⟨X,hm,h⟩,w,hg,hb=>by
  have hn:0<S.slots:=by omega
  obtain⟨m1,e1,h1⟩:=eM h hm (t+(g+1)) (v:=S.slot ((t+g)%S.slots)) (hb _ (Nat.mod_lt _ hn));obtain⟨m2,e2,h2⟩:=vK t g {S with slot:=Fv S.slot ((t+(g+1))%S.slots) (S.slot ((t+g)%S.slots))} m1 h1 ⟨w.nodup,w.Nr,w.lt,w.ob⟩ (by show g<S.slots;omega) (λi hi=>by
   show Fv S.slot _ _ i<_;unfold Fv;split
   ·exact hb _ (Nat.mod_lt _ hn)
   ·exact hb i hi)
  refine⟨m2,?_,?_⟩
  ·rw[iv,dk h hm,Fj,e1,Fj,e2]
  ·have e:Xi S.slots (Fv S.slot ((t+(g+1))%S.slots) (S.slot ((t+g)%S.slots))) t g=Xi S.slots S.slot t (g+1):=by
    funext i;unfold Xi;by_cases hi:i<S.slots
    ·have Jr:i%S.slots=i:=Nat.mod_eq_of_lt hi;have hne:∀d,d<S.slots->off S.slots t i≠d->i≠(t+d)%S.slots:=λd hd q e=>q (iP hn t hd (by rw[Jr];exact e.symm));by_cases c1:1<=off S.slots t i/\off S.slots t i<=g
     ·rw[if_pos ⟨hi,c1⟩,if_pos ⟨hi,by omega⟩];obtain⟨p1,p2⟩:=cQ.prev hn (t:=t) (i:=i) (by omega);refine af _ _ λe=> ?_;have:=iP hn t (i:=(i+S.slots-1)%S.slots) hg (by rw[e,Nat.mod_mod]);rw[aV (Nat.mod_mod _ _),p2]at this;omega
     ·rw[if_neg λq=>c1 q.2];by_cases c2:off S.slots t i=g+1
      ·have e3:(t+(g+1))%S.slots=i:=by rw[<-c2,bN hn,Jr]
       rw[if_pos ⟨hi,by omega⟩,e3,ak];obtain⟨p1,p2⟩:=cQ.prev hn (t:=t) (i:=i) (by omega);rw[p1,c2,Nat.add_sub_cancel]
      ·rw[if_neg (by omega),af _ _ (hne (g+1) hg c2)]
    ·rw[if_neg λq=>hi q.1,if_neg λq=>hi q.1];refine af _ _ λe=>hi ?_;rw[e];exact Nat.mod_lt _ hn
   rw[<-e];exact h2
theorem AM(h:aQ S X)(hm:Is X.lo m)(w:Wf S)(ix:Ix S){a:Nat}{x:Ob}(hx:S.ob a=some x)(J0:¬S.has a)(he:S.has 0)(ha:a<4294967296)(G6:a≠0)(hb:∀i,i<S.slots->S.slot i<4294967296):
  ∃m' T,iw a m=some m'/\NM {S with slot:=T} m'/\Ix {S with slot:=T}/\∀v,v≠0->(Fw.has {S with slot:=T} v↔v=a\/S.has v):=by
 have hn:0<S.slots:=by have:=ix.rh.np;omega
 have JT:∀j,j<S.slots->S.slot j≠a:=λj hj e=>J0 ⟨j,hj,e⟩;have hh:S.hash a%m.slots=S.hm a:=by rw[fW h hm];rfl
 have XX:S.hm a<S.slots:=Nat.mod_lt _ hn;obtain⟨g0,eg0,_⟩:=C3 h hm (S.hm a) he;obtain⟨d,ed,dl,db,de⟩:=sr h hm w ix (S.hm a) (S.slots+1) 0 (by omega) (λc hc=>by omega) (by
  obtain⟨i,hi,h0⟩:=he;refine⟨off S.slots (S.hm a) i,gL hn _ _,?_⟩;rw[bN hn,Nat.mod_eq_of_lt hi];exact h0)
 obtain⟨g,eg,gl,gz,gn⟩:=C3 h hm (S.hm a+d) he;obtain⟨m1,e1,h1⟩:=vK (S.hm a+d) g S m ⟨X,hm,h⟩ w gl hb;obtain⟨X1,IZ,f1⟩:=h1;obtain⟨m2,e2,h2⟩:=eM f1 IZ (S.hm a+d) ha;have k:cQ S.slots S.slot S.hm a (S.hm a+d) g d:=⟨G6,JT,XX,dl,rfl,db,de,gl,gz,gn⟩;have eT:Fv (Xi S.slots S.slot (S.hm a+d) g) ((S.hm a+d)%S.slots) a=iQ S.slots S.slot a (S.hm a+d) g:=by
  funext i;unfold iQ;by_cases hi:i<S.slots
  ·have Jr:i%S.slots=i:=Nat.mod_eq_of_lt hi;by_cases c:off S.slots (S.hm a+d) i=0
   ·have e3:=bN hn (S.hm a+d) i;rw[c,Nat.add_zero,Jr]at e3;rw[if_pos ⟨hi,c⟩,e3,ak]
   ·rw[if_neg λq=>c q.2,af]
    ·unfold Xi;by_cases c2:off S.slots (S.hm a+d) i<=g
     ·rw[if_pos ⟨hi,by omega,c2⟩,if_pos ⟨hi,c2⟩]
     ·rw[if_neg (by omega),if_neg (by omega)]
    ·intro e;exact c (iP hn _ hn (by rw[Nat.add_zero,Jr];exact e.symm))
  ·rw[if_neg λq=>hi q.1,if_neg λq=>hi q.1,af]
   ·unfold Xi;rw[if_neg λq=>hi q.1]
   ·intro e;rw[e]at hi;exact hi (Nat.mod_lt _ hn)
 refine⟨m2,iQ S.slots S.slot a (S.hm a+d) g,?_,?_,⟨k.rh ix.rh,λi hi h0=> ?_⟩,λv hv=>k.mem hn v hv⟩
 ·unfold iw;rw[ie h hm w hx,Fj,xy h hm w ix hx JT,Fj,if_neg (λe=>e rfl),fV h hm w hx,Fj,hh,eg0,Fj,if_neg (by simp),fW h hm,ed,Fj,eg,Fj];dsimp only;rw[e1,Fj,e2]
 ·rw[<-eT];exact h2
 ·rcases(k.mem hn _ h0).1 ⟨i,hi,rfl⟩with e|⟨j,hj,e⟩
  ·exact⟨x,by rw[e];exact hx⟩
  ·have:=ix.there j hj (by rw[e];exact h0);rw[e]at this;exact this
def qg(n:Nat)(T:Nat->Nat)(t e:Nat):Nat->Nat:=λq=>if q<n/\off n t q<e then T ((q+1)%n)else T q
theorem Ea(h:aQ S X)(hm:Is X.lo m)(w:Wf S)(i:Nat){x:Ob}(hx:S.ob (S.slot (i%S.slots))=some x):wy i m=some (ds S.slots S.slot S.hm i):=by
 unfold wy;rw[dk h hm,Fj,fV h hm w hx,Fj,fW h hm];rfl
theorem vL(T:Nat->Nat)(t:Nat):∀(k j:Nat) (S:Fw) (m:Mm),j+k+1=S.slots->NM S m->Wf S->S.slot=qg S.slots T t j->(∀i,i<S.slots->T i<4294967296)->(∀i,i<S.slots->T i≠0->∃x,S.ob (T i)=some x)->
  (∀c,1<=c->c<=j->T ((t+c)%S.slots)≠0/\0<ds S.slots T S.hm (t+c))->
  ∃m' e,J3 k (t+j) m=some (t+e,m')/\NM {S with slot:=qg S.slots T t e} m'/\e<S.slots/\(∀c,1<=c->c<=e->T ((t+c)%S.slots)≠0/\0<ds S.slots T S.hm (t+c))/\(e+1=S.slots\/T ((t+(e+1))%S.slots)=0\/ds S.slots T S.hm (t+(e+1))=0)
 |0,j,S,m,e,hr,w,hs,hb,ht,hc=>⟨m,j,rfl,by rw[<-hs];exact hr,by omega,hc,.inl (by omega)⟩
 |k+1,j,S,m,e,⟨X,hm,h⟩,w,hs,hb,ht,hc=>by
  have hn:0<S.slots:=by omega
  have hr:S.slot ((t+(j+1))%S.slots)=T ((t+(j+1))%S.slots):=by
   rw[hs];unfold qg;rw[if_neg];rintro⟨q1,q2⟩;rw[aV (Nat.mod_mod _ _),iP hn t (d:=j+1) (by omega) rfl]at q2;omega
  have hd:ds S.slots S.slot S.hm (t+(j+1))=ds S.slots T S.hm (t+(j+1)):=CZ hr rfl;rw[J3,Nat.add_assoc t j 1,dk h hm,Fj,hr];by_cases c0:T ((t+(j+1))%S.slots)=0
  ·rw[if_pos c0];exact⟨m,j,rfl,by rw[<-hs];exact⟨X,hm,h⟩,by omega,hc,.inr (.inl c0)⟩
  ·obtain⟨x,hx⟩:=ht _ (Nat.mod_lt (t+(j+1)) hn) c0;rw[if_neg c0,Ea h hm w _ (by rw[hr];exact hx),Fj,hd];by_cases c1:ds S.slots T S.hm (t+(j+1))=0
   ·rw[if_pos c1];exact⟨m,j,rfl,by rw[<-hs];exact⟨X,hm,h⟩,by omega,hc,.inr (.inr c1)⟩
   ·obtain⟨m1,e1,h1⟩:=eM h hm (t+j) (v:=T ((t+(j+1))%S.slots)) (hb _ (Nat.mod_lt _ hn));rw[if_neg c1,e1,Fj];have e2:Fv S.slot ((t+j)%S.slots) (T ((t+(j+1))%S.slots))=qg S.slots T t (j+1):=by
     funext q;unfold qg;rw[hs];by_cases hq:q<S.slots
     ·have hqm:q%S.slots=q:=Nat.mod_eq_of_lt hq;by_cases c2:off S.slots t q=j
      ·have e3:=bN hn t q;rw[c2,hqm]at e3;rw[e3,ak,if_pos ⟨hq,by omega⟩];congr 1;rw[<-Nat.add_assoc,dj hn,e3,dj hn,hqm]
      ·rw[af _ _ λe=>c2 (iP hn t (by omega) (by rw[hqm];exact e.symm))];unfold qg;by_cases c3:off S.slots t q<j
       ·rw[if_pos ⟨hq,c3⟩,if_pos ⟨hq,by omega⟩]
       ·rw[if_neg (by omega),if_neg (by omega)]
     ·rw[if_neg λz=>hq z.1,af]
      ·unfold qg;rw[if_neg λz=>hq z.1]
      ·intro z;rw[z]at hq;exact hq (Nat.mod_lt _ hn)
    obtain⟨m2,e',g1,g2,g3,g4,g5⟩:=vL T t k (j+1) {S with slot:=Fv S.slot ((t+j)%S.slots) (T ((t+(j+1))%S.slots))} m1 (by show j+1+k+1=S.slots;omega) h1 ⟨w.nodup,w.Nr,w.lt,w.ob⟩ e2 hb ht (λc h2 h3=>by
     by_cases q:c=j+1
     ·rw[q];exact⟨c0,by show 0<ds S.slots T S.hm (t+(j+1));omega⟩
     ·exact hc c h2 (by omega))
    exact⟨m2,e',g1,g2,g3,g4,g5⟩
end
def kG(n:Nat)(T:Nat->Nat)(t e:Nat):Nat->Nat:=λq=>if q<n/\off n t q<e then T ((q+1)%n)else if q<n/\off n t q=e then 0 else T q
structure ig(n:Nat)(T H:Nat->Nat)(t e:Nat):Prop where
 en:e<n
 t0:T (t%n)≠0
 be:∀c,1<=c->c<=e->T ((t+c)%n)≠0/\0<ds n T H (t+c)
 st:e+1=n\/T ((t+(e+1))%n)=0\/ds n T H (t+(e+1))=0
section
variable{n t e:Nat}{T H:Nat->Nat}
theorem nH{q:Nat}(h0:off n t q<e)(hn:0<n):kG n T t e (q%n)=T ((q+1)%n):=by
 have e1:off n t (q%n)=off n t q:=aV (Nat.mod_mod _ _);unfold kG;rw[if_pos ⟨Nat.mod_lt _ hn,by rw[e1];exact h0⟩,Nat.mod_add_mod]
theorem qh{q:Nat}(h0:off n t q=e)(hn:0<n):kG n T t e (q%n)=0:=by
 have e1:off n t (q%n)=off n t q:=aV (Nat.mod_mod _ _);unfold kG;rw[if_neg (by rw[e1];omega),if_pos ⟨Nat.mod_lt _ hn,by rw[e1];exact h0⟩]
theorem jN{q:Nat}(h0:e<off n t q)(hn:0<n):kG n T t e (q%n)=T (q%n):=by
 have e1:off n t (q%n)=off n t q:=aV (Nat.mod_mod _ _);unfold kG;rw[if_neg (by rw[e1];omega),if_neg (by rw[e1];omega)]
theorem ig.at_(k:ig n T H t e)(hn:0<n){q:Nat}(h0:off n t q<e):T ((q+1)%n)≠0/\0<ds n T H (q+1):=by
 have h1:=bN hn t q;have h2:=k.be (off n t q+1) (by omega) (by omega);have e1:(t+(off n t q+1))%n=(q+1)%n:=by rw[<-Nat.add_assoc,dj hn,h1,dj hn]
 rw[e1,ev e1]at h2;exact h2
theorem ig.ds0(k:ig n T H t e)(h:Rh n T H){q:Nat}(h0:off n t q<e):ds n (kG n T t e) H q+1=ds n T H (q+1):=by
 have hn:0<n:=by have:=h.np;omega
 obtain⟨h1,h2⟩:=k.at_ hn h0;have hl:=h.Oa h1;have hd:=h.KI h1;have hh:=h.hl _ h1;have h3:=Nat.mod_lt q hn;have e4:ds n (kG n T t e) H q=if q%n<H (T ((q+1)%n))then q%n+n-H (T ((q+1)%n))else q%n-H (T ((q+1)%n)):=by
  unfold ds;rw[nH h0 hn]
 rw[e4];rw[fU hh hl]at hd;have e5:=dj (n:=n) (i:=q) hn;revert hd e5
 repeat' split
 all_goals omega
theorem ig.ds2(hn:0<n){q:Nat}(h0:e<off n t q):ds n (kG n T t e) H q=ds n T H q:=CZ (jN h0 hn) rfl
theorem ig.rh(k:ig n T H t e)(h:Rh n T H):Rh n (kG n T t e) H:=by
 have hn:0<n:=by have:=h.np;omega
 have ML:=h.np;have LY:=k.en;refine⟨h.np,?_,?_,?_,?_⟩
 ·intro q hq;by_cases c0:off n t q<e
  ·rw[nH c0 hn]at hq⊢;exact h.hl _ hq
  ·by_cases c1:off n t q=e
   ·rw[qh c1 hn]at hq;exact absurd rfl hq
   ·rw[jN (by omega) hn]at hq⊢;exact h.hl _ hq
 ·intro q hq hp;have hs:=fX hn t q;have ho:=gL hn t q;have Xj:off n t (q+1)≠e:=λz=>hq (qh z hn);by_cases c0:off n t (q+1)<e
  ·have d1:=k.ds0 h c0;obtain⟨a1,a2⟩:=k.at_ hn c0;by_cases c:off n t q+1=n
   ·
    rw[if_pos c]at hs;have e1:(q+1)%n=t%n:=by
     have:=bN hn t (q+1);rw[hs,Nat.add_zero]at this;exact this.symm
    have b1:0<ds n T H (q+1):=by
     obtain⟨z1,z2⟩:=h.st (q+1) a1 a2;omega
    obtain⟨b2,b3⟩:=h.st q (by rw[e1];exact k.t0) b1;obtain⟨b4,b5⟩:=h.st (q+1) a1 a2;by_cases c2:e<off n t q
    ·rw[jN c2 hn,ig.ds2 hn c2];exact⟨b2,by omega⟩
    ·exfalso;have hall:∀i,i<n->T i≠0:=by
      intro i hi;have Jr:i%n=i:=Nat.mod_eq_of_lt hi;have hoi:=gL hn t i;have Rm:=bN hn t i;rw[Jr]at Rm;by_cases z:off n t i=0
      ·rw[z,Nat.add_zero]at Rm;rw[<-Rm];exact k.t0
      ·have:=(k.be (off n t i) (by omega) (by omega)).1;rw[Rm]at this;exact this
     obtain⟨i,hi,h0⟩:=h.full hall;have hoi:=gL hn t i;have Rm:=bN hn t i;by_cases z:off n t i=0
     ·rw[z,Nat.add_zero]at Rm;have:ds n T H (q+1)=ds n T H i:=ev (e1.trans Rm);omega
     ·have:=(k.be (off n t i) (by omega) (by omega)).2;rw[ev Rm]at this;omega
   ·rw[if_neg c]at hs;have c3:off n t q<e:=by omega
    have d2:=k.ds0 h c3;rw[nH c3 hn];obtain⟨b1,b2⟩:=k.at_ hn c3;obtain⟨b3,b4⟩:=h.st (q+1) a1 a2;exact⟨b1,by omega⟩
  ·have c1:e<off n t (q+1):=by omega
   rw[jN c1 hn]at hq;rw[ig.ds2 hn c1]at hp⊢;obtain⟨b1,b2⟩:=h.st q hq hp;by_cases c:off n t q+1=n
   ·rw[if_pos c]at hs;omega
   ·rw[if_neg c]at hs;by_cases c2:off n t q=e
    ·exfalso;have e1:(t+(e+1))%n=(q+1)%n:=by
      have h1:=bN hn t q;rw[<-Nat.add_assoc,dj hn,<-c2,h1,dj hn]
     rcases k.st with z|z|z
     ·omega
     ·rw[e1]at z;exact hq z
     ·rw[ev e1]at z;omega
    ·rw[jN (by omega) hn,ig.ds2 hn (by omega)];exact⟨b1,b2⟩
 ·intro i j hi hj h0 e0;have Jr:i%n=i:=Nat.mod_eq_of_lt hi;have hjm:j%n=j:=Nat.mod_eq_of_lt hj;rw[<-Jr]at h0 e0;rw[<-hjm]at e0;have src:∀q,kG n T t e (q%n)≠0->∃p,p<n/\kG n T t e (q%n)=T p/\off n t p=(if off n t q<e then off n t q+1 else off n t q)/\off n t q≠e:=by
   intro q hq;by_cases c0:off n t q<e
   ·refine⟨(q+1)%n,Nat.mod_lt _ hn,nH c0 hn,?_,by omega⟩;rw[aV (Nat.mod_mod _ _),fX hn,if_neg (by omega),if_pos c0]
   ·by_cases c1:off n t q=e
    ·rw[qh c1 hn]at hq;exact absurd rfl hq
    ·refine⟨q%n,Nat.mod_lt _ hn,jN (by omega) hn,?_,c1⟩;rw[aV (Nat.mod_mod _ _),if_neg c0]
  obtain⟨p,p1,p2,p3,p4⟩:=src i h0;obtain⟨q,q1,q2,q3,q4⟩:=src j (by rw[<-e0];exact h0);have e2:p=q:=h.inj p q p1 q1 (by rw[<-p2];exact h0) (by rw[<-p2,<-q2,e0]);subst e2;have key:off n t i=off n t j:=by
   rw[p3]at q3;revert q3
   repeat' split
   all_goals omega
  have:=yK hn key;rw[Jr,hjm]at this;exact this
 ·intro hall;exact absurd (qh (iP hn t LY rfl) hn) (hall _ (Nat.mod_lt _ hn))
theorem ig.mem(k:ig n T H t e)(h:Rh n T H)(v:Nat)(hv:v≠0):(∃i,i<n/\kG n T t e i=v)↔v≠T (t%n)/\∃i,i<n/\T i=v:=by
 have hn:0<n:=by have:=h.np;omega
 constructor
 ·rintro⟨i,hi,e0⟩;have Jr:i%n=i:=Nat.mod_eq_of_lt hi;rw[<-Jr]at e0;have src:∃p,p<n/\T p=v/\off n t p≠0:=by
   have ho:=gL hn t i;have LY:=k.en;by_cases c0:off n t i<e
   ·rw[nH c0 hn]at e0;refine⟨_,Nat.mod_lt _ hn,e0,?_⟩;rw[aV (Nat.mod_mod _ _),fX hn,if_neg (by omega)];omega
   ·by_cases c1:off n t i=e
    ·rw[qh c1 hn]at e0;exact absurd e0.symm hv
    ·rw[jN (by omega) hn]at e0;refine⟨_,Nat.mod_lt _ hn,e0,?_⟩;rw[aV (Nat.mod_mod _ _)];omega
  obtain⟨p,p1,p2,p3⟩:=src;refine⟨λz=>p3 ?_,p,p1,p2⟩;have:=h.inj p (t%n) p1 (Nat.mod_lt _ hn) (by rw[p2];exact hv) (by rw[p2];exact z);rw[this,aV (Nat.mod_mod _ _),qf]
 ·rintro⟨h1,i,hi,e0⟩;have Jr:i%n=i:=Nat.mod_eq_of_lt hi;have ho:=gL hn t i;have hne:off n t i≠0:=λz=>h1 (by
   have:=bN hn t i;rw[z,Nat.add_zero,Jr]at this;rw[this,e0])
  by_cases c:off n t i<=e
  ·obtain⟨p1,p2⟩:=cQ.prev hn (t:=t) (i:=i) (by omega);refine⟨(i+n-1)%n,Nat.mod_lt _ hn,?_⟩;rw[nH (by omega) hn,kA hn,Jr,e0]
  ·exact⟨i%n,Nat.mod_lt _ hn,by rw[jN (by omega) hn,Jr,e0]⟩
end
section
variable{S:Fw}{X:Hp}{m:Mm}
theorem AN(h:aQ S X)(hm:Is X.lo m)(w:Wf S)(ix:Ix S){a:Nat}(ha:S.has a)(G6:a≠0)(hb:∀i,i<S.slots->S.slot i<4294967296):
  ∃m' T,fa a m=some m'/\NM {S with slot:=T} m'/\Ix {S with slot:=T}/\∀v,v≠0->(Fw.has {S with slot:=T} v↔v≠a/\S.has v):=by
 have hn:0<S.slots:=by have:=ix.rh.np;omega
 have ML:=ix.rh.np;obtain⟨t,ht,rfl⟩:=ha;have htm:t%S.slots=t:=Nat.mod_eq_of_lt ht;obtain⟨x,hx⟩:=ix.there t ht G6;have e00:S.slot=qg S.slots S.slot t 0:=by
  funext q;unfold qg;rw[if_neg (by omega)]
 obtain⟨m1,e,e1,h1,h2,h3,h4⟩:=vL S.slot t (S.slots-1) 0 S m (by omega) ⟨X,hm,h⟩ w e00 hb ix.there (λc h1 h2=>by omega);obtain⟨X1,IZ,f1⟩:=h1;obtain⟨m2,e2,h5⟩:=eM f1 IZ (t+e) (v:=0) (by decide);have k:ig S.slots S.slot S.hm t e:=⟨h2,by rw[htm];exact G6,h3,h4⟩;have eT:Fv (qg S.slots S.slot t e) ((t+e)%S.slots) 0=kG S.slots S.slot t e:=by
  funext q;unfold kG qg;by_cases hq:q<S.slots
  ·have hqm:q%S.slots=q:=Nat.mod_eq_of_lt hq;by_cases c:off S.slots t q=e
   ·have e3:=bN hn t q;rw[c,hqm]at e3;rw[e3,ak,if_neg (by omega),if_pos ⟨hq,c⟩]
   ·rw[af _ _ λz=>c (iP hn t h2 (by rw[hqm];exact z.symm)),if_neg (c:=q<S.slots/\off S.slots t q=e) λz=>c z.2]
  ·rw[if_neg λz=>hq z.1,if_neg λz=>hq z.1,af]
   ·rw[if_neg λz=>hq z.1]
   ·intro z;rw[z]at hq;exact hq (Nat.mod_lt _ hn)
 refine⟨m2,kG S.slots S.slot t e,?_,?_,⟨k.rh ix.rh,λi hi h0=> ?_⟩,λv hv=> ?_⟩
 ·unfold fa;rw[ie h hm w hx,Fj,qe h hm w ix ht G6,Fj];dsimp only;rw[fW h hm,show t=t+0 from rfl,e1,Fj];exact e2
 ·rw[<-eT];exact h5
 ·obtain⟨_,j,hj,e6⟩:=(k.mem ix.rh _ h0).1 ⟨i,hi,rfl⟩;have:=ix.there j hj (by rw[e6];exact h0);rw[e6]at this;exact this
 ·have:=k.mem ix.rh v hv;rw[htm]at this;exact this
theorem AO(h:aQ S X)(hm:Is X.lo m)(w:Wf S)(ix:Ix S){a b:Nat}(ha:S.has a)(G6:a≠0)(hb:¬S.has b)(FM:b≠0)(Gk:b<4294967296){y:Ob}(hy:S.ob b=some y)(he:S.hash a=S.hash b):
  ∃m' T,jW a b m=some m'/\NM {S with slot:=T} m'/\Ix {S with slot:=T}/\∀v,v≠0->(Fw.has {S with slot:=T} v↔v=b\/v≠a/\S.has v):=by
 have hn:0<S.slots:=by have:=ix.rh.np;omega
 obtain⟨t,ht,rfl⟩:=ha;have htm:t%S.slots=t:=Nat.mod_eq_of_lt ht;obtain⟨x,hx⟩:=ix.there t ht G6;obtain⟨m2,e2,h5⟩:=eM h hm t Gk;rw[htm]at h5;have hne:∀i,i<S.slots->S.slot i≠b:=λi hi e=>hb ⟨i,hi,e⟩;have hd:∀i,ds S.slots (Fv S.slot t b) S.hm i=ds S.slots S.slot S.hm i:=by
  intro i;by_cases c:i%S.slots=t
  ·unfold ds Fw.hm;rw[c,ak,he]
  ·unfold ds;rw[af _ _ c]
 have hz:∀i,Fv S.slot t b i≠0↔S.slot i≠0:=by
  intro i;by_cases c:i=t
  ·rw[c,ak];exact⟨λ_=>G6,λ_=>FM⟩
  ·rw[af _ _ c]
 refine⟨m2,Fv S.slot t b,?_,h5,⟨⟨ix.rh.np,λi _=> ?_,λi h1 h2=> ?_,λi j hi hj h0 e=> ?_,λhall=> ?_⟩,λi hi h0=> ?_⟩,λv hv=> ?_⟩
 ·unfold jW;rw[ie h hm w hx,Fj,ie h hm w hy,Fj,fV h hm w hx,Fj,fV h hm w hy,Fj,if_neg (λz=>z he),qe h hm w ix ht G6,Fj];exact e2
 ·exact Nat.mod_lt _ hn
 ·have h1':=(hz _).1 h1;have h2':0<ds S.slots S.slot S.hm (i+1):=by rw[<-hd];exact h2
  obtain⟨g1,g2⟩:=ix.rh.st i h1' h2';refine⟨(hz _).2 g1,?_⟩;have e1:=hd (i+1);have e2:=hd i;have e3:ds S.slots (Fv S.slot t b) (Fw.hm {S with slot:=Fv S.slot t b}) (i+1)=ds S.slots S.slot S.hm (i+1):=e1;have e4:ds S.slots (Fv S.slot t b) (Fw.hm {S with slot:=Fv S.slot t b}) i=ds S.slots S.slot S.hm i:=e2;show ds S.slots (Fv S.slot t b) (Fw.hm {S with slot:=Fv S.slot t b}) (i+1)<=ds S.slots (Fv S.slot t b) (Fw.hm {S with slot:=Fv S.slot t b}) i+1;rw[e3,e4];exact g2
 ·by_cases c1:i=t
  ·by_cases c2:j=t
   ·omega
   ·exfalso;have e':Fv S.slot t b i=Fv S.slot t b j:=e;rw[c1,ak,af _ _ c2]at e';exact hne j hj e'.symm
  ·by_cases c2:j=t
   ·exfalso;have e':Fv S.slot t b i=Fv S.slot t b j:=e;rw[c2,ak,af _ _ c1]at e';exact hne i hi e'
   ·have e':Fv S.slot t b i=Fv S.slot t b j:=e;rw[af _ _ c1,af _ _ c2]at e';exact ix.rh.inj i j hi hj ((hz i).1 h0) e'
 ·obtain⟨i,hi,h0⟩:=ix.rh.full λi hi=>(hz i).1 (hall i hi);exact⟨i,hi,(hd i).trans h0⟩
 ·show∃z,S.ob (Fv S.slot t b i)=some z;by_cases c:i=t
  ·rw[c,ak];exact⟨y,hy⟩
  ·rw[af _ _ c];exact ix.there i hi ((hz i).1 h0)
 ·constructor
  ·rintro⟨i,hi,e⟩;have e':Fv S.slot t b i=v:=e;by_cases c:i=t
   ·rw[c,ak]at e';exact .inl e'.symm
   ·rw[af _ _ c]at e';refine .inr ⟨λz=>c ?_,i,hi,e'⟩;exact ix.rh.inj i t hi ht (by rw[e'];exact hv) (by rw[e',z])
  ·rintro(e|⟨h1,i,hi,e⟩)
   ·exact⟨t,ht,by rw[e];exact ak _ _ _⟩
   ·refine⟨i,hi,?_⟩;show Fv S.slot t b i=v;rw[af _ _ λz=>h1 (by rw[<-e,z]),e]
end
end Go.FC
