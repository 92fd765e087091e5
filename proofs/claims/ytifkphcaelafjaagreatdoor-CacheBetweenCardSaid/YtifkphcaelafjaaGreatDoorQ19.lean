/-
  Lemmas on the way to the row. No condition beyond their own.
-/
import Derived.Test.YtifkphcaelafjaaGreatDoorQ18
set_option maxHeartbeats 25600000
set_option maxRecDepth 100000
set_option linter.unusedVariables false
set_option linter.unusedSimpArgs false
namespace Go.FC
open Go.FP Go.Fy Go.Fz
theorem yM{β:Type}(f:Nat->β)(a:Nat)(v w:β):Fv (Fv f a v) a w=Fv f a w:=by
 funext x;by_cases h:x=a
 ·rw[h,ak,ak]
 ·rw[af _ _ h,af _ _ h,af _ _ h]
theorem aY{ob:Nat->Option Ob}{a b:Nat}{x:Ob}(h:Fv ob a none b=some x):b≠a/\ob b=some x:=by
 by_cases e:b=a
 ·subst e;rw[ak]at h;cases h
 ·rw[af _ _ e]at h;exact⟨e,h⟩
theorem Hu.del{ob:Nat->Option Ob}{nm:Nat->List (List UInt8)}(n:Hu ob nm){a:Nat}(Jy:∀b y,ob b=some y->b≠a->y.b.name≠a):Hu (Fv ob a none) nm:=by
 refine⟨n.z,?_,?_,?_,?_,?_,?_⟩
 ·by_cases e:0=a
  ·rw[e,ak]
  ·rw[af _ _ e];exact n.o0
 ·intro b y hy ht;exact n.node b y (aY hy).2 ht
 ·intro b y hy;obtain⟨hb,hy⟩:=aY hy;rcases n.Jt b y hy with e|⟨z,hz,ht⟩
  ·exact .inl e
  ·exact .inr ⟨z,(af _ _ (Jy b y hy hb)).trans hz,ht⟩
 ·intro b y b' y' hy ht NO Np e;exact n.un b y b' y' (aY hy).2 ht (aY NO).2 Np e
 ·intro b y hy ht;exact n.VX b y (aY hy).2 ht
 ·intro b y b' y' hy ht NO Np e1 e2;exact n.ue b y b' y' (aY hy).2 ht (aY NO).2 Np e1 e2
theorem Lx.on{nx pv Vc Vd:Nat->Nat}{r:List Nat}(h:Lx nx pv r)(k:∀x∈r,Vc x=nx x/\Vd x=pv x):Lx Vc Vd r:=by
 refine⟨h.1.congr (λx hx=>(k x (List.dropLast_subset r hx)).1) (λy hy=>(k y (List.mem_of_mem_tail hy)).2),λhr=> ?_⟩;rw[(k _ (ij hr)).1,(k _ (fY hr)).2];exact h.2 hr
theorem Rg.gone{S S':Fw}{m:Mm}(g:G S m){ex a:Nat}{r:List Nat}(h:Rg S ex r)(ha:a∉r)(hex:ex=a\/ex=0)(e:S'.ob=Fv S.ob a none)(h3:S'.root 13=S.root 13)(h4:S'.root 14=S.root 14)(h5:S'.root 15=S.root 15):Rg S' 0 r:=by
 have hne:∀c∈r,c≠a:=λc hc k=>ha (k▸hc);refine⟨h.nd,λc=>⟨λhc=> ?_,λ⟨h1,x,hx,ht⟩=> ?_⟩,?_,h3.trans h.hd,by rw[h4];exact h.bm,h5.trans h.ct⟩
 ·obtain⟨x,hx,ht⟩:=h.obj hc;exact⟨(g.FV hx).1,x,by rw[e];exact(af _ _ (hne c hc)).trans hx,ht⟩
 ·rw[e]at hx;obtain⟨Lr,hx⟩:=aY hx;refine(h.mem c).2 ⟨?_,x,hx,ht⟩;rcases hex with k|k<;>rw[k]
  ·exact Lr
  ·exact h1
 ·rw[e];refine h.cy.on λx hx=> ?_;unfold G3 Ii;rw[af _ _ (hne x hx)];exact⟨rfl,rfl⟩
variable{S:Fw}{m:Mm}{nm:Nat->List (List UInt8)}{r L ps:List Nat}{ho:Nat}
theorem W.goes{ex a:Nat}{x:Ob}(g:G S m)(n:Hu S.ob nm)(hs:Hs S)(rg:Rg S ex r)(QA:a∉r)(hex:ex=a\/ex=0)(nd:(a::L).Nodup)(mem:∀b,b∈a::L↔∃x,S.ob b=some x)(hx:S.ob a=some x)
  (Jy:∀b y,S.ob b=some y->b≠a->y.b.name≠a) (hf:∀b y,S.ob b=some y->b≠a->y.b.tag=2->y.b.refs=((a::L).map (IF S.ob)++ps).count b/\1<=y.b.refs)
  (out:∀s,S.out s=false) (full:∀b s i,S.At b s i->b∉(S.sl s).free->b≠ho->∃x,S.ob b=some x) (now:S.root 16<=4611686018427387904) (KC:∀p∈ps,Jk S.ob p/\p≠a) (hxn:x.b.name≠a) (nc:∀a x,S.ob a=some x->x.b.tag=2->x.b.Ft=(bl x.d.length).1):
  ∃m1 m2 S',fa a m=some m1/\jf a m1=some m2/\G S' m2/\S'.ob=Fv S.ob a none/\S'.root=S.root/\S'.Fq=S.Fq/\S'.slots=S.slots/\(∀b∈L,G4 S'.ob b=G4 S.ob b)/\
   ∀root' m3,G {S' with root:=root'} m3->(∀f,12<f->f<17->root' f=S.root f)->root' 17=(L.filter (G4 S'.ob)).length->W {S' with root:=root'} m3 nm r L (x.b.name::ps) ho:=by
 obtain⟨m1,m2,S',e1,e2,g',PK,NP,er,eo,es,et,ef⟩:=Ed g hs out hx;have JT:=(List.nodup_cons.1 nd).1;have M0:∀b∈L,b≠a:=λb hb k=>JT (k▸hb);refine⟨m1,m2,S',e1,e2,g',NP,er,es,et,λb hb=> ?_,λroot' m3 g3 hr h17=> ?_⟩
 ·unfold G4;rw[NP,af _ _ (M0 b hb)]
 ·have isn:∀p,Jk S.ob p->p≠a->Jk S'.ob p:=λp hp hne=>by
   rw[NP];rcases hp with k|⟨z,hz,ht⟩
   ·exact .inl k
   ·exact .inr ⟨z,(af _ _ hne).trans hz,ht⟩
  refine⟨g3,?_,PK,?_,(List.nodup_cons.1 nd).2,?_,?_,h17,?_,?_,?_,λp hp=> ?_,λb y hy ht=> ?_⟩
  ·show Hu S'.ob nm;rw[NP];exact n.del Jy
  ·exact Rg.gone g rg QA hex NP (hr 13 (by decide) (by decide)) (hr 14 (by decide) (by decide)) (hr 15 (by decide) (by decide))
  ·intro b;show b∈L↔∃x,S'.ob b=some x;rw[NP];constructor
   ·intro hb;obtain⟨y,hy⟩:=(mem b).1 (List.mem_cons_of_mem _ hb);exact⟨y,(af _ _ (M0 b hb)).trans hy⟩
   ·rintro⟨y,hy⟩;obtain⟨hb,hy⟩:=aY hy;rcases List.mem_cons.1 ((mem b).2 ⟨y,hy⟩)with k|k
    ·exact absurd k hb
    ·exact k
  ·intro b y hy ht;have NO:Fv S.ob a none b=some y:=by rw[<-NP];exact hy
   obtain⟨hb,Lq⟩:=aY NO;obtain⟨k1,k2⟩:=hf b y Lq hb ht;refine⟨?_,k2⟩;have e3:L.map (IF S'.ob)=L.map (IF S.ob):=List.map_congr_left λc hc=>by
    unfold IF;rw[NP,af _ _ (M0 c hc)]
   show y.b.refs=(L.map (IF S'.ob)++x.b.name::ps).count b;rw[k1,e3,List.map_cons,cg hx];simp only [List.count_append,List.count_cons,List.cons_append];omega
  ·intro s;show S'.out s=false;rw[eo];exact out s
  ·intro b t j hb GF hbh;obtain⟨h1,h2,h3⟩:=ef b t j hb GF;obtain⟨y,hy⟩:=full b t j h1 h2 hbh;exact⟨y,by show S'.ob b=_;rw[NP];exact(af _ _ h3).trans hy⟩
  ·show root' 16<=_;rw[hr 16 (by decide) (by decide)];exact now
  ·rcases List.mem_cons.1 hp with k|k
   ·rw[k];exact isn _ (n.Jt a x hx) hxn
   ·exact isn _ (KC p k).1 (KC p k).2
  ·have NO:Fv S.ob a none b=some y:=by rw[<-NP];exact hy
   exact nc b y (aY NO).2 ht
namespace W
theorem ps0(h:W S m nm r L (0::ps) ho):W S m nm r L ps ho:=
 ⟨h.g,h.n,h.hs,h.rg,h.nd,h.mem,λa x hx ht=>by
  obtain⟨h1,h2⟩:=h.rf a x hx ht;rw[List.count_append,List.count_cons_of_ne (Ne.symm (h.g.FV hx).1)]at h1;rw[List.count_append];exact⟨h1,h2⟩,h.Vh,h.out,h.full,h.now,λp hp=>h.pn p (List.mem_cons_of_mem _ hp),h.nc⟩
theorem ps1(h:W S m nm r L ps ho):W S m nm r L (0::ps) ho:=
 ⟨h.g,h.n,h.hs,h.rg,h.nd,h.mem,λa x hx ht=>by
  obtain⟨h1,h2⟩:=h.rf a x hx ht;rw[List.count_append]at h1⊢;rw[List.count_cons_of_ne (Ne.symm (h.g.FV hx).1)];exact⟨h1,h2⟩,h.Vh,h.out,h.full,h.now,λp hp=>(List.mem_cons.1 hp).elim .inl (h.pn p),h.nc⟩
theorem has(h:W S m nm r L ps ho){a:Nat}{x:Ob}(hx:S.ob a=some x):∃L',L.Perm (a::L')/\W S m nm r (a::L') ps ho:=by
 have:=List.perm_cons_erase ((h.mem a).2 ⟨x,hx⟩);exact⟨_,this,h.perm this⟩
theorem R9:∀(k a:Nat) (S:Fw) (m:Mm) (L:List Nat),W S m nm r L (a::ps) ho->(nm a).length<k->ps.length<900->
  ∃m' S' L',QI k a m=some m'/\W S' m' nm r L' ps ho/\gM S.ob S'.ob/\ik S S'
 |0,a,S,m,L,_,hk,_=>absurd hk (by omega)
 |k+1,a,S,m,L,h,hk,hp=>by
  rw[QI];rcases h.pn a (by simp)with rfl|⟨x,hx,ht⟩
  ·rw[if_pos rfl];exact⟨m,S,L,rfl,h.ps0,(Ij.refl _).es,ik.refl S⟩
  have G6:=(h.g.FV hx).1;obtain⟨Gp,Gc⟩:=h.rf a x hx ht;have hl:=h.OU (by simp;omega) hx ht;obtain⟨m1,e1,g1⟩:=h.g.Mq hx ht (v:=x.b.refs-1) (by omega);rw[List.count_append,List.count_cons_self]at Gp;have ed:jX a m=some (x.b.refs-1,m1):=by
   unfold jX;rw[h.g.Te hx (by decide),Fj,show(aT x.b).getD 11 0=x.b.refs from rfl,if_neg (by omega),e1,Fj]
  rw[if_neg G6,ed,Fj];by_cases hz:x.b.refs-1≠0
  ·rw[if_pos hz];refine⟨m1,_,L,rfl,h.reck hx ht g1 ⟨?_,by omega⟩ (λb hb=> ?_) (λp hp=>h.pn p (List.mem_cons_of_mem _ hp)),(Ij.Fv hx (x.Of _)).es,⟨rfl,rfl,λ_ _ _=>rfl⟩⟩
   ·rw[List.count_append];omega
   ·rw[List.count_cons_of_ne (Ne.symm hb)]
  ·rw[if_neg hz];have k1:=Ij.Fv hx (x.Of (x.b.refs-1));have Q5:(Fv S.ob a (some (x.rf (x.b.refs-1)))) a=some (x.rf (x.b.refs-1)):=ak _ _ _;obtain⟨L',hpm,h2⟩:=h.has hx;have QU:((a::L').map (IF S.ob)++ps).count a=0:=by
    have:=(h2.rf a x hx ht).1;rw[List.count_append,List.count_cons_self]at this;rw[List.count_append];omega
   have hcm:∀b∈a::L',IF S.ob b≠a:=λb hb e=>by
    have:a∈(a::L').map (IF S.ob)++ps:=List.mem_append_left _ (List.mem_map.2 ⟨b,hb,e⟩);have:=List.count_pos_iff.2 this;omega
   obtain⟨m2,m3,S3,e2,e3,g3,NP,er,es,et,eis,fin⟩:=W.goes (ps:=ps) g1 (h2.n.Oe k1) (h2.hs.Oe (root':=S.root) k1) (h2.rg.congr (S':= {S with ob:=Fv S.ob a (some (x.rf (x.b.refs-1)))}) k1 (tE hx _) (tF hx _) rfl rfl rfl)
    (λk=>by obtain⟨y,hy,Np⟩:=h2.rg.obj k;rw[hx]at hy;cases hy;omega) (.inr rfl) h2.nd (λb=>(h2.mem b).trans (k1.ex b).symm) Q5
    (λb y hy hb e=>by
     obtain⟨z,hz,s⟩:=k1.back hy;exact hcm b ((h2.mem b).2 ⟨z,hz⟩) (by rw[cg hz,<-s.name];exact e))
    (λb y hy hb GL=>by
     have Lq:S.ob b=some y:=by rw[<-af S.ob _ hb];exact hy
     obtain⟨q1,q2⟩:=h2.rf b y Lq GL;refine⟨?_,q2⟩;have e5:(a::L').map (IF (Fv S.ob a (some (x.rf (x.b.refs-1)))))=(a::L').map (IF S.ob):=congrArg (λf=>(a::L').map f) (funext λb=>k1.nm b);show y.b.refs=((a::L').map (IF (Fv S.ob a (some (x.rf (x.b.refs-1)))))++ps).count b;rw[e5,q1,List.count_append,List.count_append,List.count_cons_of_ne (Ne.symm hb)])
    h2.out (λb s i ha GF hne=>(k1.ex b).2 (h2.full b s i ha GF hne)) h2.now
    (λp hp=>⟨k1.Xo (h.pn p (List.mem_cons_of_mem _ hp)),λe=>by
     have:a∈(a::L').map (IF S.ob)++ps:=List.mem_append_right _ (e▸hp);have:=List.count_pos_iff.2 this;omega⟩) (by have:=hcm a (by simp);rwa [cg hx]at this)
    (λb y hy ht=>by
     obtain⟨z,hz,s⟩:=k1.back hy;rw[s.Ft,s.d];exact h2.nc b z hz (s.tag.symm.trans ht))
   have h17:S.root 17=(L'.filter (G4 S3.ob)).length+1:=by
    rw[h2.Vh,List.filter_cons,gF hx,ht,show Nat.beq 2 2=true from rfl,if_pos rfl,List.length_cons];congr 2;refine List.filter_congr λb hb=> ?_;rw[eis b hb];exact(k1.G4 b).symm
   have hlen:=h2.len;have hfl:=List.length_filter_le (G4 S3.ob) L';rw[List.length_cons]at hlen;obtain⟨m4,e4,g4⟩:=g3.GJ (f:=17) (v:=(L'.filter (G4 S3.ob)).length) (by decide) (.inr (by decide)) (by show _<256^4;omega);have hW:=fin (Fv S3.root 17 (L'.filter (G4 S3.ob)).length) m4 g4 (λf h1 h2=>by rw[af _ _ (by omega),er]) (ak _ _ _);have edrop:sP a m1=some m4:=by
    unfold sP dV;rw[e2,Fj,e3,Fj,g3.Hh (by decide) (.inr (by decide)),Fj,er];show(if S.root 17=0 then none else m3.FG 17 (S.root 17-1))=_;rw[h17,if_neg (by omega),Nat.add_sub_cancel];exact e4
   have eL:=(h2.n.node a x hx ht).1;rw[eL,List.length_cons]at hk;obtain⟨m5,S5,L5,e5,hW5,hE,hSm⟩:=R9 k x.b.name _ m4 L' hW (by omega) hp;refine⟨m5,S5,L5,?_,hW5,gM.trans ⟨λb y hy GL=> ?_,λb y hy GL=> ?_,λb y hy GL=> ?_⟩ hE,ik.trans (S':= {S3 with root:=Fv S3.root 17 (L'.filter (G4 S3.ob)).length}) ⟨es,et,λf h1 h2=> ?_⟩ hSm⟩
   ·rw[g1.tag Q5 ht,Fj,edrop,Fj];exact e5
   ·have hb:b≠a:=λe=>by subst e;rw[hx]at hy;cases hy;omega
    exact⟨y,by show S3.ob b=_;rw[NP,af _ _ hb];show Fv S.ob a _ b=_;rw[af _ _ hb];exact hy,OT.refl y⟩
   ·have Lq:S3.ob b=some y:=hy;rw[NP]at Lq;obtain⟨hb,Lq⟩:=aY Lq;have SW:Fv S.ob a (some (x.rf (x.b.refs-1))) b=some y:=Lq;rw[af _ _ hb]at SW;exact⟨y,SW,OT.refl y⟩
   ·have Lq:S3.ob b=some y:=hy;rw[NP]at Lq;obtain⟨hb,Lq⟩:=aY Lq;have SW:Fv S.ob a (some (x.rf (x.b.refs-1))) b=some y:=Lq;rw[af _ _ hb]at SW;exact⟨y,SW,GL⟩
   ·show Fv S3.root 17 _ f=S.root f;rw[af _ _ h2,er]
end W
end Go.FC
namespace Go.FC
open Go.FP Go.Fy Go.Fz
variable{S:Fw}{m:Mm}{nm:Nat->List (List UInt8)}{r L ps:List Nat}{ho:Nat}
namespace Hu
theorem Xp{ob:Nat->Option Ob}{nm:Nat->List (List UInt8)}(n:Hu ob nm){a:Nat}(h:Jk ob a):(nm a).length<=127:=by
 have hc:aI (nm a)=0:=by
  rcases h with rfl|⟨x,hx,ht⟩
  ·rw[n.z];rfl
  ·exact(n.node a x hx ht).2.2.2
 have h1:=KK (nm a) (bH hc);have h2:=bQ hc;omega
end Hu
namespace W
theorem Sa{a:Nat}(h:W S m nm r L (a::ps) ho)(hp:ps.length<900):∃m' S' L',fH a m=some m'/\W S' m' nm r L' ps ho/\gM S.ob S'.ob/\ik S S':=by
 unfold fH;rcases h.pn a (by simp)with rfl|⟨x,hx,ht⟩
 ·rw[if_pos rfl];exact⟨m,S,L,rfl,h.ps0,(Ij.refl _).es,ik.refl S⟩
 ·have hl:=h.n.Xp (.inr ⟨x,hx,ht⟩);have hc:=h.g.NL;obtain⟨m',S',L',e,k⟩:=h.R9 (m.slots+1) a S m L (by omega) hp;refine⟨m',S',L',?_,k⟩;have:=(h.rf a x hx ht).2;rw[if_neg (h.g.FV hx).1];unfold qU;rw[h.g.tag hx ht,Fj,if_neg (by omega),e]
theorem IV{a:Nat}{p q:List Nat}(h:W S m nm (p++a::q) L ps ho)(hp:ps.length<900):
  ∃m' S' L',qV a m=some m'/\W S' m' nm (p++q) L' ps ho/\gM (Fv S.ob a none) S'.ob/\ik S S':=by
 obtain⟨x,hx,ht⟩:=h.rg.obj (a:=a) (by simp);have PC:=h.rlen;have Vg:=h.rg.nd;have QA:a∉p++q:=by
  have:=(List.perm_middle (l₁:=p) (l₂:=q) (a:=a)).nodup_iff.1 Vg;exact(List.nodup_cons.1 this).1
 obtain⟨m1,KW,GS,e1,k1,Gp,g1,rg1⟩:=h.rg.IV h.g (by simp at PC⊢;omega);obtain⟨n1,p1,Q5,_⟩:=k1.of hx;have s1:=k1.Oe;obtain⟨L',hpm,h2⟩:=h.has hx;have hobm:∀b y,KW b=some y->b≠a->y.b.name≠a:=λb y hy hb e=>by
  obtain⟨z,hz,s⟩:=s1.back hy;rcases h.n.Jt b z hz with k|⟨u,hu,Tz⟩
  ·rw[<-s.name,e]at k;exact(h.g.FV hx).1 k
  ·rw[<-s.name,e,hx]at hu;cases hu;omega
 obtain⟨m2,m3,S3,e2,e3,g3,NP,er,es,et,eis,fin⟩:=W.goes (ps:=ps) (ho:=ho) g1 (h2.n.Oe s1) (h2.hs.Oe (root':=GS) s1) rg1 QA (.inl rfl) h2.nd (λb=>(h2.mem b).trans (s1.ex b).symm) Q5 hobm
  (λb y hy hb GL=>by
   obtain⟨z,hz,s⟩:=s1.back hy;obtain⟨z',n',p',Js,e⟩:=k1.back hy;rw[hz]at Js;cases Js;obtain⟨q1,q2⟩:=h2.rf b z hz (s.tag.symm.trans GL);have e5:(a::L').map (IF KW)=(a::L').map (IF S.ob):=congrArg (λf=>(a::L').map f) (funext λb=>s1.nm b);show y.b.refs=((a::L').map (IF KW)++ps).count b/\_;rw[e5,e];exact⟨q1,q2⟩)
  h2.out (λb s i ha GF hne=>(s1.ex b).2 (h2.full b s i ha GF hne)) (by show GS 16<=_;rw[Gp 16 (.inr (by decide))];exact h2.now)
  (λp hp=>⟨s1.Xo (h.pn p hp),λe=>by
   rcases h.pn p hp with k|⟨z,hz,KX⟩
   ·rw[e]at k;exact(h.g.FV hx).1 k
   ·rw[e,hx]at hz;cases hz;omega⟩) (λe=>by
   rcases h.n.Jt a x hx with k|⟨z,hz,KX⟩
   ·have e':x.b.name=a:=e;rw[e']at k;exact(h.g.FV hx).1 k
   ·have e':x.b.name=a:=e;rw[e',hx]at hz;cases hz;omega) (λb y hy ht=>by
   obtain⟨z,hz,s⟩:=s1.back hy;rw[s.Ft,s.d];exact h.nc b z hz (s.tag.symm.trans ht))
 have h17:GS 17=(L'.filter (G4 S3.ob)).length:=by
  rw[Gp 17 (.inr (by decide)),h2.Vh,List.filter_cons,gF hx,ht,show Nat.beq 1 2=false from rfl,if_neg (by simp)];congr 1;refine List.filter_congr λb hb=> ?_;rw[eis b hb];exact(s1.G4 b).symm
 have hW:=fin S3.root m3 g3 (λf h1 h2=>by rw[er]) (by rw[er];exact h17);obtain⟨m4,S4,L4,e4,hW4,hE,hS⟩:=hW.Sa (a:=x.b.name) hp;refine⟨m4,S4,L4,?_,hW4,gM.trans ⟨λb y hy GL=> ?_,λb y hy GL=> ?_,λb y hy GL=> ?_⟩ hE,ik.trans (S':=S3) ⟨es,et,λf h1 h2=>by rw[er];exact Gp f (.inr h1)⟩ hS⟩
 ·unfold qV;rw[h.g.tag hx ht,Fj,e1,Fj,e2,Fj,e3,Fj];exact e4
 ·obtain⟨hb,hy⟩:=aY hy;obtain⟨z,hz,s⟩:=s1.1 b y hy;exact⟨z,by show S3.ob b=_;rw[NP];exact(af _ _ hb).trans hz,s⟩
 ·have Lq:S3.ob b=some y:=hy;rw[NP]at Lq;obtain⟨hb,Lq⟩:=aY Lq;obtain⟨z,hz,s⟩:=s1.back Lq;exact⟨z,(af _ _ hb).trans hz,s⟩
 ·have Lq:S3.ob b=some y:=hy;rw[NP]at Lq;obtain⟨hb,Lq⟩:=aY Lq;obtain⟨z,hz,s⟩:=s1.back Lq;exact⟨z,(af _ _ hb).trans hz,s.tag.symm.trans GL⟩
theorem FG(h:W S m nm r L ps ho){f v:Nat}(hf:f=16\/f=18\/f=19\/f=20)(hv:v<4294967296\/f=16/\v<=4611686018427387904)(Jp:f=16->v<=4611686018427387904):∃m',m.FG f v=some m'/\W {S with root:=Fv S.root f v} m' nm r L ps ho:=by
 obtain⟨m',e,g'⟩:=h.g.GJ (f:=f) (v:=v) (by omega) (.inr (by omega)) (by
  rcases hf with rfl|rfl|rfl|rfl
  ·show v<256^8;have:=Jp rfl;omega
  ·show v<256^4;omega
  ·show v<256^4;omega
  ·show v<256^4;omega)
 refine⟨m',e,h.Oe (ob':=S.ob) g' (Ij.refl _) (h.rg.congr (Ij.refl _) (λ_=>rfl) (λ_=>rfl) (af _ _ (by omega)) (af _ _ (by omega)) (af _ _ (by omega))) h.rf (af _ _ (by omega)) ?_ h.pn⟩;by_cases k:f=16
 ·subst k;rw[ak];exact Jp rfl
 ·rw[af _ _ (Ne.symm k)];exact h.now
theorem Vi(h:W S m nm r L ps ho){a u:Nat}{x:Ob}(hx:S.ob a=some x)(ht:x.b.tag=1)(hu:u<=1):∃m' ob',tT a u m=some m'/\W {S with ob:=ob'} m' nm r L ps ho/\Ij S.ob ob'/\∀b,b≠a->ob' b=S.ob b:=by
 obtain⟨_,_,_,_,_,F4⟩:=h.g.wf.ob a x hx;have OQ:cX {x with b:= {x.b with used:=u}}:=by
  refine⟨?_,F4.tag,hu,F4.name,F4.next,F4.prev,F4.refs,F4.hash,F4.FB,F4.typ,F4.len,F4.fit⟩;have:=F4.right;have e:aW {x.b with used:=u}=aW x.b:=by
   unfold aW;rw[show List.range 12= [0,1,2,3,4,5,6,7,8,9,10,11]from rfl];simp only [List.any_cons,List.any_nil,ht,aT,show(FO 1 2).2=1 from rfl,show Nat.beq 1 0=false from rfl,Bool.and_false];rfl
  unfold bn at this⊢;show(Nat.ble x.b.tag 2&&Nat.ble x.b.size 480&& !aW {x.b with used:=u}&&_)=true;rw[e];rw[ht]at this⊢;exact this
 obtain⟨m',e,g'⟩:=h.g.putB (y:= {x with b:= {x.b with used:=u}}) hx OQ rfl rfl rfl rfl;have s:OT x {x with b:= {x.b with used:=u}}:=⟨rfl,rfl,rfl,rfl,rfl,rfl,rfl⟩;have k:=Ij.Fv hx s;refine⟨m',_,?_,h.Oe (root':=S.root) g' k (h.rg.congr k (λb=> ?_) (λb=> ?_) rfl rfl rfl) (λb y hy GL=> ?_) rfl h.now h.pn,k,λb hb=>af _ _ hb⟩
 ·unfold tT;rw[h.g.tag hx ht,Fj];exact e
 ·unfold G3;by_cases hb:b=a
  ·subst hb;show(match Fv S.ob b _ b with|some x=>_|none=>_)=_;rw[ak,hx]
  ·show(match Fv S.ob a _ b with|some x=>_|none=>_)=_;rw[af _ _ hb];rfl
 ·unfold Ii;by_cases hb:b=a
  ·subst hb;show(match Fv S.ob b _ b with|some x=>_|none=>_)=_;rw[ak,hx]
  ·show(match Fv S.ob a _ b with|some x=>_|none=>_)=_;rw[af _ _ hb];rfl
 ·by_cases hb:b=a
  ·subst hb;rw[ak]at hy;cases hy;exact absurd GL (by show x.b.tag≠2;omega)
  ·rw[af _ _ hb]at hy;exact h.rf b y hy GL
end W
end Go.FC
namespace Go.FC
open Go.FP Go.Fy Go.Fz
theorem JJ:∀n,1<=n->n<=63->1<=(bl n).1/\(bl n).1<=4/\(bl n).2=0/\16+n<=ae (bl n).1/\((bl n).1=1\/17<=n/\((bl n).1=2\/33<=n/\((bl n).1=3\/49<=n))):=by
 have:∀n,n<64->1<=n->1<=(bl n).1/\(bl n).1<=4/\(bl n).2=0/\16+n<=ae (bl n).1/\((bl n).1=1\/17<=n/\((bl n).1=2\/33<=n/\((bl n).1=3\/49<=n))):=by decide+kernel
 exact λn h1 h2=>this n (by omega) h1
theorem Og:∀n,n<=480->1<=(bD n).1/\(bD n).1<=9/\(bD n).2=0/\32+n<=ae (bD n).1:=by
 have:∀n,n<481->1<=(bD n).1/\(bD n).1<=9/\(bD n).2=0/\32+n<=ae (bD n).1:=by decide+kernel
 exact λn h=>this n (by omega)
theorem C5(n j:Nat):(List.replicate n (0:UInt8)).getD j 0=0:=by
 rw[List.getD_eq_getElem?_getD,List.getElem?_replicate];split<;>rfl
namespace Hu
variable{ob:Nat->Option Ob}{nm:Nat->List (List UInt8)}
theorem Jl{a b:Nat}{y:Ob}(h:Jk ob b)(hb:b≠a):Jk (Fv ob a (some y)) b:=by
 rcases h with e|⟨x,hx,ht⟩
 ·exact .inl e
 ·exact .inr ⟨x,(af _ _ hb).trans hx,ht⟩
theorem Hx(n:Hu ob nm){a b:Nat}(h:Jk ob b)(ha:ob a=none)(G6:a≠0):b≠a:=by
 rcases h with e|⟨x,hx,_⟩
 ·rw[e];exact Ne.symm G6
 ·exact λe=>by rw[e,ha]at hx;cases hx
theorem add(n:Hu ob nm){a:Nat}{y:Ob}(ha:ob a=none)(G6:a≠0)(ht:y.b.tag=2)(hu:Jk ob y.b.name)(hl:FI y.d=y.d)(hh:y.b.hash=hN (y.d::nm y.b.name))(hc:aI (y.d::nm y.b.name)=0)
  (Jy:∀b x,ob b=some x->x.b.tag=2->nm b≠y.d::nm y.b.name):Hu (Fv ob a (some y)) (Fv nm a (y.d::nm y.b.name)):=by
 have hne:∀b x,ob b=some x->b≠a:=λb x hx e=>by rw[e,ha]at hx;cases hx
 have cs:∀b x,Fv ob a (some y) b=some x->(b=a/\x=y)\/(b≠a/\ob b=some x):=λb x hx=>by
  by_cases e:b=a
  ·subst e;rw[ak]at hx;cases hx;exact .inl ⟨rfl,rfl⟩
  ·rw[af _ _ e]at hx;exact .inr ⟨e,hx⟩
 have VV:=n.Hx hu ha G6;refine⟨by rw[af _ _ (Ne.symm G6)];exact n.z,by rw[af _ _ (Ne.symm G6)];exact n.o0,?_,?_,?_,?_,?_⟩
 ·intro b x hx GQ;rcases cs b x hx with⟨rfl,rfl⟩|⟨hb,hx⟩
  ·rw[ak,af _ _ VV];exact⟨rfl,hl,hh,hc⟩
  ·rw[af _ _ hb,af _ _ (n.Hx (n.Jt b x hx) ha G6)];exact n.node b x hx GQ
 ·intro b x hx;rcases cs b x hx with⟨rfl,rfl⟩|⟨hb,hx⟩
  ·exact Jl hu VV
  ·exact Jl (n.Jt b x hx) (n.Hx (n.Jt b x hx) ha G6)
 ·intro b x b' x' hx GQ GD OV e;rcases cs b x hx with⟨rfl,rfl⟩|⟨hb,MM⟩
  ·rcases cs b' x' GD with⟨rfl,rfl⟩|⟨MI,GD⟩
   ·rfl
   ·rw[ak,af _ _ MI]at e;exact absurd e.symm (Jy b' x' GD OV)
  ·rcases cs b' x' GD with⟨rfl,rfl⟩|⟨MI,GD⟩
   ·rw[ak,af _ _ hb]at e;exact absurd e (Jy b x MM GQ)
   ·rw[af _ _ hb,af _ _ MI]at e;exact n.un b x b' x' MM GQ GD OV e
 ·intro b x hx GQ;rcases cs b x hx with⟨rfl,rfl⟩|⟨hb,hx⟩
  ·omega
  ·rw[af _ _ (n.Hx (n.Jt b x hx) ha G6)];exact n.VX b x hx GQ
 ·intro b x b' x' hx GQ GD OV e1 e2;rcases cs b x hx with⟨rfl,rfl⟩|⟨hb,hx⟩
  ·omega
  ·rcases cs b' x' GD with⟨rfl,rfl⟩|⟨MI,GD⟩
   ·omega
   ·exact n.ue b x b' x' hx GQ GD OV e1 e2
theorem addE(n:Hu ob nm){a:Nat}{y:Ob}(ha:ob a=none)(G6:a≠0)(ht:y.b.tag=1)(hu:Jk ob y.b.name)(hh:y.b.hash=sG (hN (nm y.b.name)) y.b.typ)(hp:(aP y.d).2=0)
  (Jy:∀b x,ob b=some x->x.b.tag=1->¬(x.b.name=y.b.name/\x.b.typ=y.b.typ)):Hu (Fv ob a (some y)) nm:=by
 have cs:∀b x,Fv ob a (some y) b=some x->(b=a/\x=y)\/(b≠a/\ob b=some x):=λb x hx=>by
  by_cases e:b=a
  ·subst e;rw[ak]at hx;cases hx;exact .inl ⟨rfl,rfl⟩
  ·rw[af _ _ e]at hx;exact .inr ⟨e,hx⟩
 refine⟨n.z,by rw[af _ _ (Ne.symm G6)];exact n.o0,?_,?_,?_,?_,?_⟩
 ·intro b x hx GQ;rcases cs b x hx with⟨rfl,rfl⟩|⟨hb,hx⟩
  ·omega
  ·exact n.node b x hx GQ
 ·intro b x hx;rcases cs b x hx with⟨rfl,rfl⟩|⟨hb,hx⟩
  ·exact Jl hu (n.Hx hu ha G6)
  ·exact Jl (n.Jt b x hx) (n.Hx (n.Jt b x hx) ha G6)
 ·intro b x b' x' hx GQ GD OV e;rcases cs b x hx with⟨rfl,rfl⟩|⟨hb,hx⟩
  ·omega
  ·rcases cs b' x' GD with⟨rfl,rfl⟩|⟨MI,GD⟩
   ·omega
   ·exact n.un b x b' x' hx GQ GD OV e
 ·intro b x hx GQ;rcases cs b x hx with⟨rfl,rfl⟩|⟨hb,hx⟩
  ·exact⟨hh,hp⟩
  ·exact n.VX b x hx GQ
 ·intro b x b' x' hx GQ GD OV e1 e2;rcases cs b x hx with⟨rfl,rfl⟩|⟨hb,MM⟩
  ·rcases cs b' x' GD with⟨rfl,rfl⟩|⟨MI,GD⟩
   ·rfl
   ·exact absurd ⟨e1.symm,e2.symm⟩ (Jy b' x' GD OV)
  ·rcases cs b' x' GD with⟨rfl,rfl⟩|⟨MI,GD⟩
   ·exact absurd ⟨e1,e2⟩ (Jy b x MM GQ)
   ·exact n.ue b x b' x' MM GQ GD OV e1 e2
end Hu
theorem G.laid{S:Fw}{m:Mm}(g:G S m){a s i:Nat}(ha:S.At a s i)(hf:a∉(S.sl s).free)(hn:¬S.has a)(ho:S.ob a=none){y:Ob}(hy:cX y)(hc:y.b.Ft=(S.sl s).Ft)(h1:1<=y.d.length):
  ∃m1 m2,gk a y.b m=some m1/\cV (a+hlen y.b.tag) 5 y.d m1=some m2/\G {S with ob:=Fv S.ob a (some y)} m2:=by
 obtain⟨y0,QB⟩:∃y0:Ob,y0= {y with d:=List.replicate y.d.length 0}:=⟨_,rfl⟩;have RO:y0.d.length=y.d.length:=by rw[QB];exact List.length_replicate
 have hok0:cX y0:=by
  refine⟨?_,?_,?_,?_,?_,?_,?_,?_,?_,?_,?_,?_⟩
  ·rw[QB];exact hy.right
  ·rw[QB];exact hy.tag
  ·rw[QB];exact hy.used
  ·rw[QB];exact hy.name
  ·rw[QB];exact hy.next
  ·rw[QB];exact hy.prev
  ·rw[QB];exact hy.refs
  ·rw[QB];exact hy.hash
  ·rw[QB];exact hy.FB
  ·rw[QB];exact hy.typ
  ·rw[RO,QB];exact hy.len
  ·rw[RO,QB];exact hy.fit
 have FM:y0.b=y.b:=by rw[QB]
 obtain⟨m1,e1,g1⟩:=g.layB ha hf hn ho (y:=y0) hok0 (by rw[FM];exact hc) (λj=>by rw[QB];exact C5 _ _);obtain⟨m2,e2,g2⟩:=g1.write (a:=a) (x:=y0) (l:=y.d) (ak _ _ _) h1 RO.symm;refine⟨m1,m2,by rw[<-FM];exact e1,by rw[<-FM];exact e2,?_⟩;have e3:({y0 with d:=y.d}:Ob)=y:=by rw[QB]
 rw[e3]at g2;have e4:Fv (Fw.ob {S with ob:=Fv S.ob a (some y0)}) a (some y)=Fv S.ob a (some y):=yM _ _ _ _;rw[e4]at g2;exact g2
end Go.FC
namespace Go.FC
open Go.FP Go.Fy Go.Fz
theorem Ee{Ft name en typ hash:Nat}{p:List UInt8}(h1:1<=Ft)(h9:Ft<=9)(hn:name<4294967296)(he:en<18446744073709551616)(ht:typ<65536)(hh:hash<4294967296)(hp:p.length<=480)(hf:32+p.length<=ae Ft):
  cX ⟨{tag:=1,Ft:=Ft,name:=name,FB:=en,typ:=typ,size:=p.length,hash:=hash},p⟩:=by
 refine⟨?_,.inl rfl,Nat.zero_le _,hn,Nat.zero_lt_succ _,Nat.zero_lt_succ _,Nat.zero_lt_succ _,hh,he,ht,by show p.length=if(1:Nat)=1 then p.length else 0;rw[if_pos rfl],hf⟩;unfold bn aW;rw[show List.range 12= [0,1,2,3,4,5,6,7,8,9,10,11]from rfl];simp[aT,FO,Nw,h1,h9,hp,show Nat.beq 1 0=false from rfl,show Nat.beq 2 0=false from rfl,show Nat.beq 4 0=false from rfl,show Nat.beq 8 0=false from rfl]
theorem Ef{Ft label name hash:Nat}{p:List UInt8}(h1:1<=Ft)(h9:Ft<=9)(hn:name<4294967296)(hh:hash<4294967296)(hl:label=p.length)(LS:1<=label)(hp:label<=63)(hf:16+p.length<=ae Ft):
  cX ⟨{tag:=2,Ft:=Ft,label:=label,name:=name,hash:=hash},p⟩:=by
 refine⟨?_,.inr rfl,Nat.zero_le _,hn,Nat.zero_lt_succ _,Nat.zero_lt_succ _,Nat.zero_lt_succ _,hh,Nat.zero_lt_succ _,Nat.zero_lt_succ _,by show p.length=if(2:Nat)=1 then 0 else label;rw[if_neg (by decide)];exact hl.symm,hf⟩;unfold bn aW;rw[show List.range 12= [0,1,2,3,4,5,6,7,8,9,10,11]from rfl];simp[aT,FO,Nw,h1,h9,hp,LS,show Nat.beq 1 0=false from rfl,show Nat.beq 2 0=false from rfl,show Nat.beq 4 0=false from rfl,show Nat.beq 8 0=false from rfl]
variable{S:Fw}{m:Mm}{nm:Nat->List (List UInt8)}{r L ps:List Nat}
namespace W
theorem Vj{name a s i typ en:Nat}{p:List UInt8}(h:W S m nm r L (name::ps) a)(ha:S.At a s i)(hf:a∉(S.sl s).free)(ho:S.ob a=none)(hc:(S.sl s).Ft=(bD p.length).1)(hp:p.length<=480)(hu:(aP p).2=0)
  (ht:typ<65536) (he:en<18446744073709551616) (Jy:∀v x,S.ob v=some x->x.b.tag=1->¬(x.b.name=name/\x.b.typ=typ)):
  ∃m' S' y,kX a name typ en p m=some m'/\W S' m' nm (r++ [a]) (a::L) ps 0/\gM (Fv S.ob a (some y)) S'.ob/\ik S S'/\y.b.tag=1/\y.b.name=name/\y.b.typ=typ/\y.b.FB=en/\y.d=p:=by
 have g:=h.g;have Qw:=h.pn name (by simp);have G6:=g.JO ha;have JT:¬S.has a:=λk=>by
  obtain⟨x,hx⟩:=(h.hs a G6.1).1 k;rw[ho]at hx;cases hx
 have PL:name<4294967296:=by
  rcases Qw with k|⟨x,hx,_⟩
  ·omega
  ·have:=g.FV hx;omega
 obtain⟨c1,c9,_,cf⟩:=Og p.length hp;obtain⟨y,hy⟩:∃y:Ob,y=⟨{tag:=1,Ft:=(bD p.length).1,name:=name,FB:=en,typ:=typ,size:=p.length,hash:=sG (hN (nm name)) typ},p⟩:=⟨_,rfl⟩;have F4:cX y:=by rw[hy];exact Ee c1 c9 PL he ht (xI _ _) hp cf
 have y1:y.b.tag=1:=by rw[hy]
 have y2:y.b.name=name:=by rw[hy]
 obtain⟨m1,m2,e1,e2,g2⟩:=g.laid ha hf JT ho F4 (by rw[hy];exact hc.symm) (by rw[hy];exact Hu.MY hu);obtain⟨d,ed,hd⟩:=h.n.P1 g h.hs Qw typ;have Qs:d=0:=by
  rcases hd with k|⟨x,hx,GQ,k1,k2⟩
  ·exact k.1
  ·exact absurd ⟨k1,k2⟩ (Jy d x hx GQ)
 subst Qs;have Xn:¬Fw.has {S with ob:=Fv S.ob a (some y)} a:=JT;obtain⟨m3,T,e3,g3,hT⟩:=g2.U6 (a:=a) (x:=y) (ak _ _ _) Xn (Er (S:=S) g h.hs ha (.inl ho));have M0:∀b∈L,b≠a:=λb hb e=>by
  obtain⟨x,hx⟩:=(h.mem b).1 hb;rw[e,ho]at hx;cases hx
 have Rw:∀b∈r,b≠a:=λb hb e=>by
  obtain⟨x,hx,_⟩:=h.rg.obj hb;rw[e,ho]at hx;cases hx
 have rg3:Rg {S with ob:=Fv S.ob a (some y),slot:=T} a r:=by
  refine⟨h.rg.nd,λc=>⟨λhcr=> ?_,λ⟨k1,x,hx,GQ⟩=> ?_⟩,?_,h.rg.hd,h.rg.bm,h.rg.ct⟩
  ·obtain⟨x,hx,GQ⟩:=h.rg.obj hcr;exact⟨Rw c hcr,x,(af _ _ (Rw c hcr)).trans hx,GQ⟩
  ·have GD:Fv S.ob a (some y) c=some x:=hx;rw[af _ _ k1]at GD;exact(h.rg.mem c).2 ⟨(g.FV GD).1,x,GD,GQ⟩
  ·refine h.rg.cy.on λx hx=> ?_;unfold G3 Ii;show(match Fv S.ob a (some y) x with|some x=>_|none=>_)=_/\(match Fv S.ob a (some y) x with|some x=>_|none=>_)=_;rw[af _ _ (Rw x hx)];exact⟨rfl,rfl⟩
 have PC:=h.rlen;obtain⟨m4,Md,I6,e4,k4,LK,g4,rg4⟩:=Rg.Lu (S:= {S with ob:=Fv S.ob a (some y),slot:=T}) g3 rg3 (ak _ _ _) y1 (by rw[hy]) (by omega);have s4:Ij (Fv S.ob a (some y)) Md:=k4.Oe;have n2:=h.n.addE (y:=y) ho G6.1 y1 (by rw[y2];exact Qw) (by rw[hy]) (by rw[hy];exact hu) (λb x hx GQ k=>Jy b x hx GQ (by rw[hy]at k;exact k));have IU:Hs {S with ob:=Fv S.ob a (some y),slot:=T}:=λv hv=>by
  refine(hT v hv).trans ⟨λk=> ?_,λ⟨x,hx⟩=> ?_⟩
  ·rcases k with k|k
   ·exact⟨y,by rw[k];exact ak _ _ _⟩
   ·obtain⟨x,hx⟩:=(h.hs v hv).1 k;exact⟨x,(af _ _ (λe=>by rw[e,ho]at hx;cases hx)).trans hx⟩
  ·by_cases e:v=a
   ·exact .inl e
   ·have GD:Fv S.ob a (some y) v=some x:=hx;rw[af _ _ e]at GD;exact .inr ((h.hs v hv).2 ⟨x,GD⟩)
 have hmap:L.map (IF Md)=L.map (IF S.ob):=List.map_congr_left λc hc=>by
  rw[s4.nm];unfold IF;rw[af _ _ (M0 c hc)]
 refine⟨m4,_,y,?_,⟨g4,n2.Oe s4,Hs.Oe (root':=I6) IU s4,rg4,List.nodup_cons.2 ⟨λk=>M0 a k rfl,h.nd⟩,λb=> ?_,λb z hz KX=> ?_,?_,h.out,λb t j hb QN FM=> ?_,?_,λq hq=> ?_,λb z hz KX=> ?_⟩,s4.es,⟨rfl,rfl,λf h1 h2=>LK f (.inr h1)⟩,y1,y2,by rw[hy],by rw[hy],by rw[hy]⟩
 ·unfold kX;rw[if_neg (λk=>k hu),h.n.P0 g Qw,Fj];have Hb:=g.blank ha hf ho;rw[hc]at Hb;rw[Hb,Fj,ed,Fj,if_neg (λk=>k rfl)];unfold mM;rw[h.n.KJ g Qw,Fj,Fj];rw[hy]at e1 e2;rw[e1,Fj];have e2':cV (a+32) 5 p m1=some m2:=e2;rw[e2',Fj,e3,Fj,e4]
 ·rw[List.mem_cons,s4.ex b,h.mem b];constructor
  ·rintro(k|⟨x,hx⟩)
   ·exact⟨y,by rw[k];exact ak _ _ _⟩
   ·exact⟨x,(af _ _ (λe=>by rw[e,ho]at hx;cases hx)).trans hx⟩
  ·rintro⟨x,hx⟩;by_cases e:b=a
   ·exact .inl e
   ·rw[af _ _ e]at hx;exact .inr ⟨x,hx⟩
 ·obtain⟨x,n',p',hx,rfl⟩:=k4.back hz;have Pk:b≠a:=λe=>by
   rw[e]at hx;have GD:Fv S.ob a (some y) a=some x:=hx;rw[ak]at GD;cases GD;have:y.b.tag=2:=KX;omega
  have GD:Fv S.ob a (some y) b=some x:=hx;rw[af _ _ Pk]at GD;obtain⟨q1,q2⟩:=h.rf b x GD KX;refine⟨?_,q2⟩;show x.b.refs=((a::L).map (IF Md)++ps).count b;rw[q1,List.map_cons,hmap,s4.nm,cg (ak S.ob a (some y)),y2];simp only [List.count_append,List.count_cons,List.cons_append];omega
 ·show I6 17=((a::L).filter (G4 Md)).length;rw[LK 17 (.inr (by decide)),List.filter_cons,s4.G4,gF (ak S.ob a (some y)),y1,show Nat.beq 1 2=false from rfl,if_neg (by simp)];refine h.Vh.trans (congrArg List.length (List.filter_congr λb hb=> ?_));rw[s4.G4];unfold G4;rw[af _ _ (M0 b hb)]
 ·refine(s4.ex b).2 ?_;by_cases e:b=a
  ·exact⟨y,by rw[e];exact ak _ _ _⟩
  ·obtain⟨x,hx⟩:=h.full b t j hb QN e;exact⟨x,(af _ _ e).trans hx⟩
 ·show I6 16<=_;rw[LK 16 (.inr (by decide))];exact h.now
 ·have IH:=h.pn q (List.mem_cons_of_mem _ hq);exact s4.Xo (Hu.Jl IH (h.n.Hx IH ho G6.1))
 ·obtain⟨x,hx,s⟩:=s4.back hz;by_cases e:b=a
  ·rw[e,ak]at hx;cases hx;have:=s.tag;omega
  ·rw[af _ _ e]at hx;rw[s.Ft,s.d];exact h.nc b x hx (s.tag.symm.trans KX)
end W
end Go.FC
namespace Go.FC
open Go.FP Go.Fy Go.Fz
variable{S:Fw}{m:Mm}{nm:Nat->List (List UInt8)}{r L ps:List Nat}
theorem mA(l:List UInt8):(FI l).length=l.length:=by unfold FI;exact List.length_map _
theorem G.up1{up:Nat}(g:G S m)(n:Jk S.ob up)(hl:∀x,S.ob up=some x->x.b.refs<4294967295):
  ∃m' ob',(if up≠0 then iz up m else some m)=some m'/\G {S with ob:=ob'} m'/\Ij S.ob ob'/\(∀b,G3 ob' b=G3 S.ob b)/\(∀b,Ii ob' b=Ii S.ob b)/\(∀b z,ob' b=some z->∃x,S.ob b=some x/\z=x.rf (x.b.refs+if b=up then 1 else 0)):=by
 rcases n with rfl|⟨x,hx,ht⟩
 ·exact⟨m,S.ob,if_neg (λk=>k rfl),g,Ij.refl _,λ_=>rfl,λ_=>rfl,λb z hz=>⟨z,hz,by rw[if_neg (g.FV hz).1];rfl⟩⟩
 ·have:=hl x hx;obtain⟨m',e,g'⟩:=g.Mq hx ht (v:=x.b.refs+1) (by omega);refine⟨m',_,?_,g',Ij.Fv hx (x.Of _),tE hx _,tF hx _,λb z hz=> ?_⟩
  ·rw[if_pos (g.FV hx).1];unfold iz;rw[g.Te hx (by decide),Fj];exact e
  ·by_cases hb:b=up
   ·subst hb;rw[ak]at hz;cases hz;exact⟨x,hx,by rw[if_pos rfl]⟩
   ·rw[af _ _ hb]at hz;exact⟨z,hz,by rw[if_neg hb];rfl⟩
namespace W
theorem Xq{up a s i:Nat}{l:List UInt8}(h:W S m nm r L (up::ps) a)(Ho:ps.length<800)(ha:S.At a s i)(hf:a∉(S.sl s).free)(ho:S.ob a=none)(hc:(S.sl s).Ft=(bl l.length).1)(hl:aG l=0)
  (JA:aI (FI l::nm up)=0) (Jy:∀v x,S.ob v=some x->x.b.tag=2->nm v≠FI l::nm up):
  ∃m' S' L',oH up a l m=some m'/\W S' m' (Fv nm a (FI l::nm up)) r L' (a::ps) 0/\my S.ob S'.ob/\(∀b y,S'.ob b=some y->y.b.tag=2->b=a\/∃x,S.ob b=some x/\x.b.tag=2)/\ik S S':=by
 have g:=h.g;have Qw:=h.pn up (by simp);have G6:=g.JO ha;obtain⟨l1,l63,_⟩:=fC hl;have JT:¬S.has a:=λk=>by
  obtain⟨x,hx⟩:=(h.hs a G6.1).1 k;rw[ho]at hx;cases hx
 have PL:up<4294967296:=by
  rcases Qw with k|⟨x,hx,_⟩
  ·omega
  ·have:=g.FV hx;omega
 have Xr:up≠a:=h.n.Hx Qw ho G6.1;obtain⟨c1,c4,_,cf,_⟩:=JJ l.length l1 l63;obtain⟨y,hy⟩:∃y:Ob,y=⟨{tag:=2,Ft:=(bl l.length).1,label:=l.length,name:=up,hash:=cE (hN (nm up)) (FI l)},FI l⟩:=⟨_,rfl⟩;have F4:cX y:=by rw[hy];exact Ef c1 (by omega) PL (jT _ _) (mA l).symm l1 l63 (by rw[mA];exact cf)
 have y1:y.b.tag=2:=by rw[hy]
 have y2:y.b.name=up:=by rw[hy]
 have y3:y.d=FI l:=by rw[hy]
 have y4:y.b.refs=0:=by rw[hy]
 obtain⟨m1,m2,e1,e2,g2⟩:=g.laid ha hf JT ho F4 (by rw[hy];exact hc.symm) (by rw[y3,mA];exact l1);obtain⟨d,ed,hd⟩:=h.n.PZ g h.hs Qw hl;have Qs:d=0:=by
  rcases hd with k|⟨x,hx,GQ,k⟩
  ·exact k.1
  ·exact absurd k (Jy d x hx GQ)
 subst Qs;obtain⟨m3,Oh,e3,g3,s3,n3,p3,q3⟩:=G.up1 (S:= {S with ob:=Fv S.ob a (some y)}) (up:=up) g2 (Hu.Jl Qw Xr) (λx hx=>by
  have GD:Fv S.ob a (some y) up=some x:=hx;rw[af _ _ Xr]at GD;rcases Qw with k|⟨x',MM,ht⟩
  ·exact absurd k (g.FV GD).1
  ·rw[GD]at MM;cases MM;have:=h.OU (by simp;omega) GD ht;omega)
 have s3':Ij (Fv S.ob a (some y)) Oh:=s3;have SW:Oh a=some y:=by
  obtain⟨z,hz,_⟩:=s3'.1 a y (ak _ _ _);obtain⟨x,hx,e⟩:=q3 a z hz;have GD:Fv S.ob a (some y) a=some x:=hx;rw[ak]at GD;cases GD;rw[hz,e,if_neg (Ne.symm Xr)];rfl
 obtain⟨m4,T,e4,g4,hT⟩:=g3.U6 (a:=a) (x:=y) SW JT (Er (S:=S) g h.hs ha (.inl ho));have G1:=h.len;have hfl:=List.length_filter_le (G4 S.ob) L;obtain⟨m5,e5,g5⟩:=g4.GJ (f:=17) (v:=S.root 17+1) (by decide) (.inr (by decide)) (by show _<256^4;rw[h.Vh];omega);obtain⟨m6,e6,g6⟩:=g5.Mq (a:=a) (x:=y) SW y1 (v:=1) (by decide);have s6:Ij Oh (Fv Oh a (some (y.rf 1))):=Ij.Fv SW (y.Of 1);have s7:Ij (Fv S.ob a (some y)) (Fv Oh a (some (y.rf 1))):=s3'.trans s6;have M0:∀b∈L,b≠a:=λb hb e=>by
  obtain⟨x,hx⟩:=(h.mem b).1 hb;rw[e,ho]at hx;cases hx
 have Rw:∀b∈r,b≠a:=λb hb e=>by
  obtain⟨x,hx,_⟩:=h.rg.obj hb;rw[e,ho]at hx;cases hx
 have n2:=h.n.add (y:=y) ho G6.1 y1 (by rw[y2];exact Qw) (by rw[y3];exact C4 l) (by rw[y3,y2,hy];rfl) (by rw[y3,y2];exact JA) (by rw[y3,y2];exact Jy);rw[y3,y2]at n2;have IU:Hs {S with ob:=Fv S.ob a (some y),slot:=T}:=λv hv=>by
  refine(hT v hv).trans ⟨λk=> ?_,λ⟨x,hx⟩=> ?_⟩
  ·rcases k with k|k
   ·exact⟨y,by rw[k];exact ak _ _ _⟩
   ·obtain⟨x,hx⟩:=(h.hs v hv).1 k;exact⟨x,(af _ _ (λe=>by rw[e,ho]at hx;cases hx)).trans hx⟩
  ·by_cases e:v=a
   ·exact .inl e
   ·have GD:Fv S.ob a (some y) v=some x:=hx;rw[af _ _ e]at GD;exact .inr ((h.hs v hv).2 ⟨x,GD⟩)
 have hmap:L.map (IF (Fv Oh a (some (y.rf 1))))=L.map (IF S.ob):=List.map_congr_left λc hc=>by
  rw[s7.nm];unfold IF;rw[af _ _ (M0 c hc)]
 have Ml:a∉L.map (IF S.ob):=λk=>by
  obtain⟨b,hb,e⟩:=List.mem_map.1 k;obtain⟨x,hx⟩:=(h.mem b).1 hb;rw[cg hx]at e;exact h.n.Hx (h.n.Jt b x hx) ho G6.1 e
 have hpsa:a∉up::ps:=λk=>h.n.Hx (h.pn a k) ho G6.1 rfl;have hW:W {S with ob:=Fv Oh a (some (y.rf 1)),slot:=T,root:=Fv S.root 17 (S.root 17+1)} m6 (Fv nm a (FI l::nm up)) r (a::L) (up::a::ps) 0:=by
  refine⟨g6,n2.Oe s7,Hs.Oe (root':=Fv S.root 17 (S.root 17+1)) IU s7,?_,List.nodup_cons.2 ⟨λk=>M0 a k rfl,h.nd⟩,λb=> ?_,λb z hz KX=> ?_,?_,h.out,λb t j hb QN FM=> ?_,?_,λq hq=> ?_,λb z hz KX=> ?_⟩
  ·refine⟨h.rg.nd,λc=>⟨λhcr=> ?_,λ⟨k1,x,hx,GQ⟩=> ?_⟩,?_,?_,?_,?_⟩
   ·obtain⟨x,hx,GQ⟩:=h.rg.obj hcr;obtain⟨z,hz,sz⟩:=s7.1 c x ((af _ _ (Rw c hcr)).trans hx);exact⟨(g.FV hx).1,z,hz,sz.tag.trans GQ⟩
   ·obtain⟨z,hz,sz⟩:=s7.back hx;by_cases e:c=a
    ·rw[e,ak]at hz;cases hz;have:=sz.tag;omega
    ·rw[af _ _ e]at hz;exact(h.rg.mem c).2 ⟨k1,z,hz,sz.tag.symm.trans GQ⟩
   ·refine h.rg.cy.on λx hx=> ?_;constructor
    ·rw[show G3 (Fw.ob {S with ob:=Fv Oh a (some (y.rf 1)),slot:=T,root:=Fv S.root 17 (S.root 17+1)}) x=G3 Oh x from tE SW 1 x,n3 x];unfold G3;show(match Fv S.ob a (some y) x with|some x=>_|none=>_)=_;rw[af _ _ (Rw x hx)];rfl
    ·rw[show Ii (Fw.ob {S with ob:=Fv Oh a (some (y.rf 1)),slot:=T,root:=Fv S.root 17 (S.root 17+1)}) x=Ii Oh x from tF SW 1 x,p3 x];unfold Ii;show(match Fv S.ob a (some y) x with|some x=>_|none=>_)=_;rw[af _ _ (Rw x hx)];rfl
   ·exact(af S.root (a:=17) (x:=13) (S.root 17+1) (by decide)).trans h.rg.hd
   ·rw[show Fw.root {S with ob:=Fv Oh a (some (y.rf 1)),slot:=T,root:=Fv S.root 17 (S.root 17+1)} 14=S.root 14 from af S.root (a:=17) (x:=14) (S.root 17+1) (by decide)];exact h.rg.bm
   ·exact(af S.root (a:=17) (x:=15) (S.root 17+1) (by decide)).trans h.rg.ct
  ·rw[List.mem_cons,s7.ex b,h.mem b];constructor
   ·rintro(k|⟨x,hx⟩)
    ·exact⟨y,by rw[k];exact ak _ _ _⟩
    ·exact⟨x,(af _ _ (λe=>by rw[e,ho]at hx;cases hx)).trans hx⟩
   ·rintro⟨x,hx⟩;by_cases e:b=a
    ·exact .inl e
    ·rw[af _ _ e]at hx;exact .inr ⟨x,hx⟩
  ·show z.b.refs=((a::L).map (IF (Fv Oh a (some (y.rf 1))))++up::a::ps).count b/\_;rw[List.map_cons,hmap,cg (ak Oh a (some (y.rf 1))),show(y.rf 1).b.name=up from y2];by_cases e:b=a
   ·subst e;have Js:Fv Oh b (some (y.rf 1)) b=some z:=hz;rw[ak]at Js;cases Js;have k1:=List.count_eq_zero_of_not_mem Ml;have k2:=List.count_eq_zero_of_not_mem (λk=>hpsa (List.mem_cons_of_mem _ k):b∉ps);simp only [List.count_append,List.count_cons,List.cons_append,k1,k2];have e7:(up==b)=false:=by simpa using Xr
    simp[e7];exact⟨rfl,Fm _⟩
   ·have Js:Fv Oh a (some (y.rf 1)) b=some z:=hz;rw[af _ _ e]at Js;obtain⟨x,hx,rfl⟩:=q3 b z Js;have GD:Fv S.ob a (some y) b=some x:=hx;rw[af _ _ e]at GD;obtain⟨k1,k2⟩:=h.rf b x GD KX;refine⟨?_,by show 1<=x.b.refs+_;omega⟩;show x.b.refs+(if b=up then 1 else 0)=_;rw[k1];have e8:(a==b)=false:=by simpa using Ne.symm e
    simp only [List.count_append,List.count_cons,List.cons_append,e8];by_cases e9:b=up
    ·subst e9;simp
    ·rw[if_neg e9];have e10:(up==b)=false:=by simpa using Ne.symm e9
     simp[e10]
  ·show Fv S.root 17 (S.root 17+1) 17=((a::L).filter (G4 (Fv Oh a (some (y.rf 1))))).length;rw[ak,List.filter_cons,gF (ak Oh a (some (y.rf 1))),show(y.rf 1).b.tag=2 from y1,show Nat.beq 2 2=true from rfl,if_pos rfl,List.length_cons,h.Vh];refine congrArg (λl=>List.length l+1) (List.filter_congr λb hb=> ?_);rw[s7.G4];unfold G4;rw[af _ _ (M0 b hb)]
  ·refine(s7.ex b).2 ?_;by_cases e:b=a
   ·exact⟨y,by rw[e];exact ak _ _ _⟩
   ·obtain⟨x,hx⟩:=h.full b t j hb QN e;exact⟨x,(af _ _ e).trans hx⟩
  ·exact Nat.le_trans (Nat.le_of_eq (af S.root (a:=17) (x:=16) (S.root 17+1) (by decide))) h.now
  ·have UP:∀q,Jk S.ob q->Jk (Fv Oh a (some (y.rf 1))) q:=λq IH=>s7.Xo (Hu.Jl IH (h.n.Hx IH ho G6.1));rcases List.mem_cons.1 hq with k|k
   ·rw[k];exact UP up Qw
   ·rcases List.mem_cons.1 k with k|k
    ·exact .inr ⟨y.rf 1,by rw[k];exact ak _ _ _,y1⟩
    ·exact UP q (h.pn q (List.mem_cons_of_mem _ k))
  ·obtain⟨x,hx,s⟩:=s7.back hz;rw[s.Ft,s.d];by_cases e:b=a
   ·rw[e,ak]at hx;cases hx;rw[hy,mA]
   ·rw[af _ _ e]at hx;exact h.nc b x hx (s.tag.symm.trans KX)
 obtain⟨m7,S7,L7,e7,hW7,hE7,hS7⟩:=hW.Sa (by simp;omega);refine⟨m7,S7,L7,?_,hW7,my.trans ⟨λb x hx GQ=> ?_,λb z hz KX=> ?_⟩ hE7.two,λb y7 hy7 ht7=> ?_,ik.trans (S':= {S with ob:=Fv Oh a (some (y.rf 1)),slot:=T,root:=Fv S.root 17 (S.root 17+1)}) ⟨rfl,rfl,λf h1 h2=>af _ _ h2⟩ hS7⟩
 ·have em:mK a up l m=some m5:=by
   unfold mK;rw[if_neg (λk=>k hl),Hu.Oc g Qw,Fj];have Hb:=g.blank ha hf ho;rw[hc]at Hb;rw[Hb,Fj,ed,Fj,if_neg (λk=>k rfl),h.n.KJ g Qw,Fj];rw[hy]at e1 e2;rw[e1,Fj];have e2':cV (a+16) 5 (FI l) m1=some m2:=e2;rw[e2',Fj,e3,Fj,e4,Fj];unfold bK;rw[g4.Hh (by decide) (.inr (by decide)),Fj];exact e5
  have eh:jm a m5=some m6:=by
   unfold jm iz;rw[g5.tag (a:=a) (x:=y) SW y1,Fj,g5.Te (a:=a) (x:=y) SW (by decide),Fj,show(aT y.b).getD 11 0=0 from y4];exact e6
  unfold oH;rw[em,Fj,if_pos G6.1,eh,Fj];unfold fH at e7;by_cases Rl:up=0
  ·rw[if_neg (λk=>k Rl)];rw[if_pos Rl]at e7;exact e7
  ·rw[if_pos Rl];rw[if_neg Rl]at e7;exact e7
 ·have hb:b≠a:=λe=>by rw[e,ho]at hx;cases hx
  obtain⟨z,hz,sz⟩:=s7.1 b x ((af _ _ hb).trans hx);exact⟨z,hz,sz⟩
 ·obtain⟨x,hx,sx⟩:=s7.back hz;have hb:b≠a:=λe=>by
   rw[e,ak]at hx;cases hx;have:=sx.tag;omega
  rw[af _ _ hb]at hx;exact⟨x,hx,sx⟩
 ·obtain⟨z,hz,tz⟩:=hE7.2.2 b y7 hy7 ht7;by_cases hb:b=a
  ·exact .inl hb
  ·obtain⟨x,hx,sx⟩:=s7.back hz;rw[af _ _ hb]at hx;exact .inr ⟨x,hx,sx.tag.symm.trans tz⟩
end W
end Go.FC
namespace Go.FC
variable{S:Fw}{X:Hp}{m:Mm}
theorem aQ.out_(h:aQ S X){s:Nat}{b:Bool}{v:Option Nat}(hv:v=Fw.GY {S with out:=Fv S.out s b} s):aQ {S with out:=Fv S.out s b} {X with ln:=Fv X.ln s v}:=by
 refine⟨h.Fq,h.slots,h.root,h.slot,λt ht=> ?_⟩;have k:=h.sl t ht;refine⟨k.c9,k.Ft,k.live,k.free,?_,k.z,k.b,k.p⟩;show Fv X.ln s v t=_;by_cases e:t=s
 ·subst e;rw[ak];exact hv
 ·rw[af _ _ e,k.ln];unfold Fw.GY;show _=if Fv S.out s b t=true then none else _
  rw[af _ _ e]
namespace G
theorem outOf(g:G S m){s c:Nat}(hs:s<S.Fq)(hl:S.GY s=some c)(hc:c<=9):∃m',oG c s m=some m'/\G {S with out:=Fv S.out s true} m':=by
 obtain⟨X,hm,h⟩:=g.J9;obtain⟨m',e,h2⟩:=FC.IV hm hc (by rw[h.Fq];exact hs) ((h.sl s hs).ln.trans hl);exact⟨m',e,⟨_,h2,h.out_ (by unfold Fw.GY;rw[if_pos (ak _ _ _)])⟩,⟨g.wf.nodup,g.wf.Nr,g.wf.lt,g.wf.ob⟩,g.ix.congr rfl rfl λa x hx _=>⟨x,hx,rfl⟩⟩
theorem inTo(g:G S m){s c:Nat}(hs:s<S.Fq)(ho:S.out s=true)(hl:Fw.GY {S with out:=Fv S.out s false} s=some c)(hc:c<=9):∃m',oF c s m=some m'/\G {S with out:=Fv S.out s false} m':=by
 obtain⟨X,hm,h⟩:=g.J9;obtain⟨m',e,h2⟩:=FC.Lu hm hc (by rw[h.Fq];exact hs) ((h.sl s hs).ln.trans (by unfold Fw.GY;rw[if_pos ho]));exact⟨m',e,⟨_,h2,h.out_ hl.symm⟩,⟨g.wf.nodup,g.wf.Nr,g.wf.lt,g.wf.ob⟩,g.ix.congr rfl rfl λa x hx _=>⟨x,hx,rfl⟩⟩
theorem head(g:G S m){s:Nat}(hs:s<S.Fq):∃x,dR s m=some x/\x.Ft=(S.sl s).Ft/\x.live+(S.sl s).free.length=ai (S.sl s).Ft:=by
 obtain⟨X,hm,h⟩:=g.J9;have k:=h.sl s hs;exact⟨_,FC.kw hm (by rw[h.Fq];exact hs),k.Ft,k.live⟩
theorem P5(g:G S m){s:Nat}(hs:s<S.Fq):∀k i,i+k=ai (S.sl s).Ft->(∀a,a∈cP m (S.sa s) (ae (S.sl s).Ft) i k↔∃j,i<=j/\S.At a s j/\a∉(S.sl s).free)/\(cP m (S.sa s) (ae (S.sl s).Ft) i k).Nodup
 |0,i,e=>⟨λa=>⟨λh=>(by cases h),λ⟨j,h1,h2,_⟩=>absurd h2.2.1 (by omega)⟩,List.nodup_nil⟩
 |k+1,i,e=>by
  obtain⟨h1,h2⟩:=P5 g hs k (i+1) (by omega);have GG:S.At (S.sa s+i*ae (S.sl s).Ft) s i:=⟨hs,by omega,rfl⟩;obtain⟨X,hm,h⟩:=g.J9;have hb:=h.MV hm GG;have hk:=h.FH hm GG (n:=ae (S.sl s).Ft) (by omega) (Fm _);have inj:∀ {a j},S.At a s j->a=S.sa s+i*ae (S.sl s).Ft->j=i:=λha e=>by
   subst e;exact(g.inj ha GG).2
  rw[cP];by_cases c:S.sa s+i*ae (S.sl s).Ft∈(S.sl s).free
  ·rw[if_neg (by rw[hk,Fw.KH c];decide)];refine⟨λa=>(h1 a).trans ⟨λ⟨j,q1,q2,q3⟩=>⟨j,by omega,q2,q3⟩,λ⟨j,q1,q2,q3⟩=>⟨j,?_,q2,q3⟩⟩,h2⟩;by_cases e2:j=i
   ·subst e2;exact absurd c (by have:=q2.2.2;unfold Fw.ba at this;rw[this]at q3;exact q3)
   ·omega
  ·rw[if_pos (by rw[hk,Fw.GZ c])];refine⟨λa=> ?_,List.nodup_cons.2 ⟨λk=> ?_,h2⟩⟩
   ·rw[List.mem_cons,h1 a];constructor
    ·rintro(rfl|⟨j,q1,q2,q3⟩)
     ·exact⟨i,Fm _,GG,c⟩
     ·exact⟨j,by omega,q2,q3⟩
    ·rintro⟨j,q1,q2,q3⟩;by_cases e2:j=i
     ·subst e2;exact .inl q2.2.2
     ·exact .inr ⟨j,by omega,q2,q3⟩
   ·obtain⟨j,q1,q2,_⟩:=(h1 _).1 k;have:=inj q2 rfl;omega
theorem Mr(g:G S m){s:Nat}(hs:s<S.Fq):∃l,kJ s m=some l/\l.Nodup/\∀a,a∈l↔∃i,S.At a s i/\a∉(S.sl s).free:=by
 obtain⟨x,e,hc,_⟩:=g.head hs;obtain⟨h1,h2⟩:=g.P5 hs (ai (S.sl s).Ft) 0 (by omega);refine⟨_,?_,h2,λa=>(h1 a).trans ⟨λ⟨j,_,q2,q3⟩=>⟨j,q2,q3⟩,λ⟨j,q2,q3⟩=>⟨j,Nat.zero_le _,q2,q3⟩⟩⟩;unfold kJ;have G5:=g.NL;rw[e,Fj,hc,show ax m s=S.sa s by unfold ax Fw.sa Fw.base;rw[G5.1,G5.2.1]]
theorem M1(g:G S m):∀l:List Nat,(∀a∈l,∃x,S.ob a=some x)->gp m l=some l
 | [],_=>rfl
 |a::l,h=>by
  obtain⟨x,hx⟩:=h a (by simp);obtain⟨_,_,_,_,_,F4⟩:=g.wf.ob a x hx;rw[gp,g.U5 hx,Fj,M1 g l λb hb=>h b (by simp[hb]),Fj,if_pos (show(0:Nat)=0/\x.b.tag≠0 from⟨rfl,by have:=F4.tag;omega⟩)]
theorem M2(g:G S m)(full:∀a s i,S.At a s i->a∉(S.sl s).free->∃x,S.ob a=some x):∀k s,s+k=S.Fq->∃l,dG m s k=some l/\∀a,a∈l↔∃t i,s<=t/\S.At a t i/\a∉(S.sl t).free
 |0,s,e=>⟨[],rfl,λa=>⟨λh=>(by cases h),λ⟨t,i,h1,h2,_⟩=>absurd h2.1 (by omega)⟩⟩
 |k+1,s,e=>by
  obtain⟨l,e1,h1⟩:=M2 g full k (s+1) (by omega);obtain⟨x,e2,hc,hl⟩:=g.head (s:=s) (by omega);obtain⟨lv,e3,_,h3⟩:=g.Mr (s:=s) (by omega);have e4:(if x.live=0 then some []else(kJ s m).bind (gp m))=some lv:=by
   by_cases c:x.live=0
   ·rw[if_pos c];have:lv= []:=List.eq_nil_iff_forall_not_mem.2 λa ha=>by
     obtain⟨i,q1,_⟩:=(h3 a).1 ha;have h9:=q1.2.1;have:=g.wf.lt s (by omega) (λc0=>by rw[c0,Lv.2]at h9;omega);omega
    rw[this]
   ·rw[if_neg c,e3,Fj,g.M1 lv λa ha=>by
     obtain⟨i,q1,q2⟩:=(h3 a).1 ha;exact full a s i q1 q2]
  refine⟨lv++l,by rw[dG,e2,Fj,e4,Fj,e1,Fj],λa=> ?_⟩;rw[List.mem_append,h3 a,h1 a];constructor
  ·rintro(⟨i,q1,q2⟩|⟨t,i,q0,q1,q2⟩)
   ·exact⟨s,i,Fm _,q1,q2⟩
   ·exact⟨t,i,by omega,q1,q2⟩
  ·rintro⟨t,i,q0,q1,q2⟩;by_cases c:t=s
   ·subst c;exact .inl ⟨i,q1,q2⟩
   ·exact .inr ⟨t,i,by omega,q1,q2⟩
theorem M3(g:G S m)(a:Nat):∀l:List Nat,(∀b∈l,∃x,S.ob b=some x)->∃r,jY m a l=some r/\∀b,b∈r↔b∈l/\IF S.ob b=a
 | [],_=>⟨[],rfl,λb=>by simp⟩
 |c::l,h=>by
  obtain⟨x,hx⟩:=h c (by simp);obtain⟨r,e,hr⟩:=M3 g a l λb hb=>h b (by simp[hb]);refine⟨_,by rw[jY,g.Te hx (by decide),Fj,e,Fj],λb=> ?_⟩;have en:(aT x.b).getD 4 0=IF S.ob c:=(cg hx).symm;rw[en];by_cases k:IF S.ob c=a
  ·rw[if_pos k,List.mem_cons,List.mem_cons,hr b];constructor
   ·rintro(rfl|q)
    ·exact⟨.inl rfl,k⟩
    ·exact⟨.inr q.1,q.2⟩
   ·rintro⟨q|q,k2⟩
    ·exact .inl q
    ·exact .inr ⟨q,k2⟩
  ·rw[if_neg k,hr b,List.mem_cons];constructor
   ·rintro⟨q1,q2⟩;exact⟨.inr q1,q2⟩
   ·rintro⟨q|q,k2⟩
    ·rw[q]at k2;exact absurd k2 k
    ·exact⟨q,k2⟩
theorem SX(g:G S m)(full:∀a s i,S.At a s i->a∉(S.sl s).free->∃x,S.ob a=some x)(a:Nat):∃r,iA a m=some r/\∀b,b∈r↔∃x,S.ob b=some x/\x.b.name=a:=by
 have G5:=g.NL;obtain⟨l,e,hl⟩:=g.M2 full S.Fq 0 (by omega);have Iu:∀b,b∈l↔∃x,S.ob b=some x:=λb=>(hl b).trans ⟨λ⟨t,i,_,q1,q2⟩=>full b t i q1 q2,λ⟨x,hx⟩=>by
  obtain⟨s,i,h1,h2,_⟩:=g.wf.ob b x hx;exact⟨s,i,Nat.zero_le _,h1,h2⟩⟩
 obtain⟨r,e2,hr⟩:=g.M3 a l λb hb=>(Iu b).1 hb;refine⟨r,?_,λb=>(hr b).trans ⟨λ⟨h1,h2⟩=> ?_,λ⟨x,hx,h2⟩=>⟨(Iu b).2 ⟨x,hx⟩,by rw[cg hx,h2]⟩⟩⟩
 ·unfold iA sS;rw[G5.1,e,Fj,e2]
 ·obtain⟨x,hx⟩:=(Iu b).1 h1;exact⟨x,hx,by rw[<-cg hx,h2]⟩
end G
def Ob.Oi(x:Ob)(v:Nat):Ob:= {x with b:= {x.b with name:=v}}
theorem xA(b:Bk)(v:Nat)(ht:b.tag=1\/b.tag=2):aW {b with name:=v}=aW b:=by
 unfold aW;rw[show List.range 12= [0,1,2,3,4,5,6,7,8,9,10,11]from rfl];rcases ht with ht|ht
 ·simp only [List.any_cons,List.any_nil,ht,aT,show(FO 1 4).2=4 from rfl,show Nat.beq 4 0=false from rfl,Bool.and_false];rfl
 ·simp only [List.any_cons,List.any_nil,ht,aT,show(FO 2 4).2=4 from rfl,show Nat.beq 4 0=false from rfl,Bool.and_false];rfl
theorem Eg{x:Ob}(h:cX x){v:Nat}(hv:v<4294967296):cX (x.Oi v):=by
 refine⟨?_,h.tag,h.used,hv,h.next,h.prev,h.refs,h.hash,h.FB,h.typ,h.len,h.fit⟩;have:=h.right;unfold bn at this⊢;show(Nat.ble x.b.tag 2&&Nat.ble x.b.size 480&& !aW {x.b with name:=v}&&_)=true;rw[xA x.b v h.tag];exact this
theorem G.Xs(g:G S m){a v:Nat}{x:Ob}(hx:S.ob a=some x)(hv:v<4294967296):∃m',bE a 4 v m=some m'/\G {S with ob:=Fv S.ob a (some (x.Oi v))} m':=by
 obtain⟨_,_,_,_,_,F4⟩:=g.wf.ob a x hx;refine g.R6 hx (f:=4) (b':=(x.Oi v).b) (by decide) (by rcases F4.tag with h|h<;>rw[h]<;>decide) rfl rfl rfl (Eg F4 hv) rfl λq hq hn=> ?_;have:q=0\/q=1\/q=2\/q=3\/q=5\/q=6\/q=7\/q=8\/q=9\/q=10\/q=11:=by omega
 rcases this with rfl|rfl|rfl|rfl|rfl|rfl|rfl|rfl|rfl|rfl|rfl<;>rfl
def vP(ob:Nat->Option Ob)(l:List Nat)(aaf:Nat):Nat->Option Ob:=λc=>if c∈l then(ob c).map (λx=>x.Oi aaf)else ob c
theorem G.Oj{aaf:Nat}(RN:aaf<4294967296):∀(l:List Nat) (S:Fw) (m:Mm),G S m->(∀c∈l,∃x,S.ob c=some x)->∃m',iB aaf l m=some m'/\G {S with ob:=vP S.ob l aaf} m'
 | [],S,m,g,_=>⟨m,rfl,by
  have:vP S.ob [] aaf=S.ob:=by funext c;unfold vP;rw[if_neg (by simp)]
  rw[this];exact g⟩
 |c::l,S,m,g,h=>by
  obtain⟨x,hx⟩:=h c (by simp);obtain⟨m1,e1,g1⟩:=g.Xs hx RN;obtain⟨m2,e2,g2⟩:=G.Oj RN l _ m1 g1 (λd hd=>by
   by_cases k:d=c
   ·exact⟨x.Oi aaf,by rw[k];exact ak _ _ _⟩
   ·obtain⟨z,hz⟩:=h d (by simp[hd]);exact⟨z,(af _ _ k).trans hz⟩)
  refine⟨m2,by rw[iB,e1,Fj,e2],?_⟩;have:vP (Fv S.ob c (some (x.Oi aaf))) l aaf=vP S.ob (c::l) aaf:=by
   funext d;unfold vP;by_cases k:d=c
   ·subst k;rw[ak,if_pos (show d∈d::l by simp),hx];by_cases q:d∈l
    ·rw[if_pos q];rfl
    ·rw[if_neg q];rfl
   ·rw[af _ _ k];by_cases q:d∈l
    ·rw[if_pos q,if_pos (by simp[q])]
    ·rw[if_neg q,if_neg (by simp[q,k])]
  rw[<-this];exact g2
end Go.FC
namespace Go.FC
open Go.FP Go.Fy Go.Fz
variable{S:Fw}{m:Mm}{nm:Nat->List (List UInt8)}{r L ps:List Nat}
theorem W.took(h:W S m nm r L ps 0){S':Fw}{m':Mm}{b:Nat}(g':G S' m')(e1:S'.ob=S.ob)(e2:S'.slot=S.slot)(e3:S'.root=S.root)(e4:S'.out=S.out)(e5:S'.slots=S.slots)
  (hfull:∀a s i,S'.At a s i->a∉(S'.sl s).free->a≠b->∃i',S.At a s i'/\a∉(S.sl s).free):W S' m' nm r L ps b:=by
 refine⟨g',by rw[e1];exact h.n,λa ha=> ?_,⟨h.rg.nd,by rw[e1];exact h.rg.mem,by rw[e1];exact h.rg.cy,by rw[e3];exact h.rg.hd,by rw[e3];exact h.rg.bm,by rw[e3];exact h.rg.ct⟩,h.nd,by rw[e1];exact h.mem,by rw[e1];exact h.rf,by rw[e1,e3];exact h.Vh,by rw[e4];exact h.out,λa s i ha hf hne=> ?_,by rw[e3];exact h.now,by rw[e1];exact h.pn,by rw[e1];exact h.nc⟩
 ·have:S'.has a↔S.has a:=by unfold Fw.has;rw[e2,e5]
  rw[this,e1];exact h.hs a ha
 ·rw[e1];obtain⟨i',k1,k2⟩:=hfull a s i ha hf hne;exact h.full a s i' k1 k2 (h.g.JO k1).1
def IG(fr aaf c:Nat):Nat:=if c=fr then aaf else c
theorem gN(fr aaf:Nat):IG fr aaf fr=aaf:=if_pos rfl
theorem fZ{fr aaf c:Nat}(h:c≠fr):IG fr aaf c=c:=if_neg h
theorem tG{fr aaf:Nat}{l:List Nat}(hl:fr∉l):l.map (IG fr aaf)=l:=
 (List.map_congr_left λb hb=>(fZ (λe=>hl (e▸hb)):IG fr aaf b=id b)).trans (List.map_id l)
theorem tH{fr aaf b c:Nat}(hb:b≠aaf)(hc:c≠aaf)(e:IG fr aaf b=IG fr aaf c):b=c:=by
 unfold IG at e;by_cases h1:b=fr
 ·by_cases h2:c=fr
  ·rw[h1,h2]
  ·rw[if_pos h1,if_neg h2]at e;exact absurd e.symm hc
 ·by_cases h2:c=fr
  ·rw[if_neg h1,if_pos h2]at e;exact absurd e hb
  ·rw[if_neg h1,if_neg h2]at e;exact e
theorem ss{f:Nat->Nat}{c:Nat}:∀(l:List Nat),(∀b∈l,f b=f c->b=c)->(l.map f).count (f c)=l.count c
 | [],_=>rfl
 |b::l,h=>by
  rw[List.map_cons,List.count_cons,List.count_cons,ss l λd hd=>h d (by simp[hd])];by_cases e:b=c
  ·subst e;simp
  ·have:f b≠f c:=λk=>e (h b (by simp) k);simp[e,this]
structure Ren(fr aaf:Nat)(ob ob':Nat->Option Ob):Prop where
 VY:∀c z,ob c=some z->∃n p,ob' (IG fr aaf c)=some ((z.Oi (IG fr aaf z.b.name)).lk n p)
 bwd:∀c' y,ob' c'=some y->∃c z,ob c=some z/\c'=IG fr aaf c
 f0:fr≠0
 t0:aaf≠0
 tn:ob aaf=none
namespace Ren
variable{fr aaf:Nat}{ob ob':Nat->Option Ob}
theorem back(k:Ren fr aaf ob ob'){c':Nat}{y:Ob}(hy:ob' c'=some y):∃c z n p,ob c=some z/\c'=IG fr aaf c/\y=(z.Oi (IG fr aaf z.b.name)).lk n p/\c≠aaf:=by
 obtain⟨c,z,hz,rfl⟩:=k.bwd c' y hy;obtain⟨n,p,h⟩:=k.VY c z hz;rw[hy]at h;exact⟨c,z,n,p,hz,rfl,Fk h,λe=>by rw[e,k.tn]at hz;cases hz⟩
theorem ne(k:Ren fr aaf ob ob'){c:Nat}(h:Jk ob c):c≠aaf:=by
 rcases h with e|⟨x,hx,_⟩
 ·rw[e];exact Ne.symm k.t0
 ·exact λe=>by rw[e,k.tn]at hx;cases hx
theorem Xo(k:Ren fr aaf ob ob'){c:Nat}(h:Jk ob c):Jk ob' (IG fr aaf c):=by
 rcases h with rfl|⟨x,hx,ht⟩
 ·exact .inl (fZ (Ne.symm k.f0))
 ·obtain⟨n,p,h⟩:=k.VY c x hx;exact .inr ⟨_,h,ht⟩
theorem Xt(k:Ren fr aaf ob ob')(nm:Nat->List (List UInt8)){c:Nat}(h:c≠aaf):Fv nm aaf (nm fr) (IG fr aaf c)=nm c:=by
 by_cases e:c=fr
 ·rw[e,gN,ak]
 ·rw[fZ e,af _ _ h]
theorem nod(k:Ren fr aaf ob ob'){nm:Nat->List (List UInt8)}(n:Hu ob nm):Hu ob' (Fv nm aaf (nm fr)):=by
 refine⟨by rw[af _ _ (Ne.symm k.t0)];exact n.z,?_,?_,?_,?_,?_,?_⟩
 ·cases e:ob' 0 with
  |none=>rfl
  |some y=>
   obtain⟨c,z,_,_,hz,h0,_,hc⟩:=k.back e;by_cases q:c=fr
   ·rw[q,gN]at h0;exact absurd h0.symm k.t0
   ·rw[fZ q]at h0;rw[<-h0,n.o0]at hz;cases hz
 ·intro a y hy ht;obtain⟨c,z,_,_,hz,rfl,rfl,hc⟩:=k.back hy;have:=n.node c z hz ht;rw[k.Xt nm hc];show nm c=z.d::Fv nm aaf (nm fr) (IG fr aaf z.b.name)/\FI z.d=z.d/\z.b.hash=hN (nm c)/\_;rw[k.Xt nm (k.ne (n.Jt c z hz))];exact this
 ·intro a y hy;obtain⟨c,z,_,_,hz,rfl,rfl,hc⟩:=k.back hy;exact k.Xo (n.Jt c z hz)
 ·intro a y a' y' hy ht NO Np e;obtain⟨c,z,_,_,hz,rfl,rfl,hc⟩:=k.back hy;obtain⟨c',z',_,_,Js,rfl,rfl,hc'⟩:=k.back NO;rw[k.Xt nm hc,k.Xt nm hc']at e;rw[n.un c z c' z' hz ht Js Np e]
 ·intro a y hy ht;obtain⟨c,z,_,_,hz,rfl,rfl,hc⟩:=k.back hy;have:=n.VX c z hz ht;show z.b.hash=sG (hN (Fv nm aaf (nm fr) (IG fr aaf z.b.name))) z.b.typ/\_;rw[k.Xt nm (k.ne (n.Jt c z hz))];exact this
 ·intro a y a' y' hy ht NO Np e1 e2;obtain⟨c,z,_,_,hz,rfl,rfl,hc⟩:=k.back hy;obtain⟨c',z',_,_,Js,rfl,rfl,hc'⟩:=k.back NO;rw[n.ue c z c' z' hz ht Js Np (tH (k.ne (n.Jt c z hz)) (k.ne (n.Jt c' z' Js)) e1) e2]
end Ren
theorem W.moved{fr aaf s i t j:Nat}{x:Ob}(h:W S m nm r L ps aaf)(hx:S.ob fr=some x)(hs:S.At fr s i)(GG:S.At aaf t j)(hf:aaf∉(S.sl t).free)(ho:S.ob aaf=none)(hc:(S.sl t).Ft=x.b.Ft):
  ∃m' S',oK fr aaf m=some m'/\W S' m' (Fv nm aaf (nm fr)) (r.map (IG fr aaf)) (L.map (IG fr aaf)) (ps.map (IG fr aaf)) 0/\S'.sl=(S.Gi s fr).sl/\Ren fr aaf S.ob S'.ob/\ik S S'/\S'.root 17=S.root 17:=by
 have g:=h.g;have Yp:=g.JO GG;have JG:=g.FV hx;have hne:aaf≠fr:=λe=>by rw[e,hx]at ho;cases ho
 obtain⟨hffr,hcfr,F4⟩:=g.PY hx hs;have hnt:¬S.has aaf:=λk=>by
  obtain⟨z,hz⟩:=(h.hs aaf Yp.1).1 k;rw[ho]at hz;cases hz
 have htag:=F4.tag;have Hb:=g.blank GG hf ho;rw[hc]at Hb;have Kt:=g.whole hx;obtain⟨m1,e1,g1⟩:=g.fill GG hf hnt F4 hc.symm;have live:∀b z,S.ob b=some z->b≠aaf:=λb z hz e=>by rw[e,ho]at hz;cases hz
 obtain⟨m2,e2,g2⟩:∃m2,(if x.b.tag=2 then(iA fr m1).bind λl=>iB aaf l m1 else some m1)=some m2/\G {S with ob:=λc=>(Fv S.ob aaf (some x) c).map (λz=>z.Oi (IG fr aaf z.b.name))} m2:=by
  have same:∀z:Ob,z.b.name≠fr->z.Oi (IG fr aaf z.b.name)=z:=λz hz=>by rw[fZ hz];rfl
  by_cases c:x.b.tag=2
  ·rw[if_pos c];obtain⟨l,el,hl⟩:=g1.SX (λa u v ha hfa=>by
    by_cases q:a=aaf
    ·exact⟨x,by rw[q];exact ak _ _ _⟩
    ·obtain⟨z,hz⟩:=h.full a u v ha hfa q;exact⟨z,(af _ _ q).trans hz⟩) fr
   obtain⟨m2,e2,g2⟩:=G.Oj (aaf:=aaf) (by omega) l _ m1 g1 (λc hc=>by
    obtain⟨z,hz,_⟩:=(hl c).1 hc;exact⟨z,hz⟩)
   refine⟨m2,by rw[el,Fj,e2],?_⟩;have:vP (Fv S.ob aaf (some x)) l aaf=λc=>(Fv S.ob aaf (some x) c).map (λz=>z.Oi (IG fr aaf z.b.name)):=by
    funext c;unfold vP;cases e:Fv S.ob aaf (some x) c with
    |none=>split<;>rfl
    |some z=>
     by_cases q:z.b.name=fr
     ·rw[if_pos ((hl c).2 ⟨z,e,q⟩),Option.map_some,Option.map_some,q,gN]
     ·rw[if_neg (λk=>by
       obtain⟨z',Js,q'⟩:=(hl c).1 k;have:some z=some z':=e.symm.trans Js;cases this;exact q q'),Option.map_some,same z q]
   rw[this]at g2;exact g2
  ·rw[if_neg c];refine⟨m1,rfl,?_⟩;have:(λc=>(Fv S.ob aaf (some x) c).map (λz=>z.Oi (IG fr aaf z.b.name)))=Fv S.ob aaf (some x):=by
    funext c;cases e:Fv S.ob aaf (some x) c with
    |none=>rfl
    |some z=>
     rw[Option.map_some,same z];intro q;have hN:Jk S.ob z.b.name:=by
      by_cases k:c=aaf
      ·rw[k,ak]at e;cases e;exact h.n.Jt fr x hx
      ·rw[af _ _ k]at e;exact h.n.Jt c z e
     rcases hN with k|⟨u,hu,Tz⟩
     ·rw[q]at k;exact JG.1 k
     ·rw[q,hx]at hu;cases hu;omega
   rw[this];exact g1
 obtain⟨Ju,SH⟩:∃Ju:Nat->Option Ob,Ju=λc=>(Fv S.ob aaf (some x) c).map (λz=>z.Oi (IG fr aaf z.b.name)):=⟨_,rfl⟩;rw[<-SH]at g2;have M4:Ju aaf=some (x.Oi (IG fr aaf x.b.name)):=by rw[SH];show Option.map _ (Fv S.ob aaf (some x) aaf)=_;rw[ak];rfl
 have Lz:∀c,c≠aaf->Ju c=(S.ob c).map (λz=>z.Oi (IG fr aaf z.b.name)):=λc hc=>by rw[SH];show Option.map _ (Fv S.ob aaf (some x) c)=_;rw[af _ _ hc]
 have Vk:Ju fr=some (x.Oi (IG fr aaf x.b.name)):=by rw[Lz fr (Ne.symm hne),hx];rfl
 have Rx:∀c y,Ju c=some y->c≠aaf->∃z,S.ob c=some z/\y=z.Oi (IG fr aaf z.b.name):=λc y hy hc=>by
  rw[Lz c hc]at hy;cases e:S.ob c with
  |none=>rw[e]at hy;cases hy
  |some z=>rw[e]at hy;exact⟨z,rfl,(Fk hy).symm⟩
 obtain⟨m3,T,e3,g3,hT⟩:=g2.aac (a:=fr) (b:=aaf) ((h.hs fr JG.1).2 ⟨x,hx⟩) JG.1 hnt M4 (by
  rw[Fw.Jh (S:= {S with ob:=Ju}) Vk,Fw.Jh (S:= {S with ob:=Ju}) M4])
 have nx2:∀c,c≠aaf->G3 Ju c=G3 S.ob c/\Ii Ju c=Ii S.ob c:=λc hc=>by
  unfold G3 Ii;rw[Lz c hc];cases S.ob c<;>exact⟨rfl,rfl⟩
 have rne:∀c∈r,c≠aaf:=λc hc e=>by
  obtain⟨z,hz,_⟩:=h.rg.obj hc;rw[e,ho]at hz;cases hz
 obtain⟨m4,Md,I6,e4,k4,LK,g4,rg4⟩:∃m4 Md I6,(if x.b.tag=1 then jk fr aaf m3 else some m3)=some m4/\Ka Ju Md/\(∀f,f<13\/14<f->I6 f=S.root f)/\G {S with ob:=Md,slot:=T,root:=I6} m4/\Rg {S with ob:=Md,slot:=T,root:=I6} fr (r.map (IG fr aaf)):=by
  by_cases c:x.b.tag=1
  ·rw[if_pos c];obtain⟨p,q,TF⟩:=List.append_of_mem ((h.rg.mem fr).2 ⟨JG.1,x,hx,c⟩);have rg3:Rg {S with ob:=Ju,slot:=T} aaf (p++fr::q):=by
    rw[<-TF];refine⟨h.rg.nd,λb=>⟨λhb=> ?_,λ⟨k1,y,hy,GL⟩=> ?_⟩,h.rg.cy.on λb hb=>nx2 b (rne b hb),h.rg.hd,h.rg.bm,h.rg.ct⟩
    ·obtain⟨z,hz,KX⟩:=h.rg.obj hb;exact⟨rne b hb,z.Oi (IG fr aaf z.b.name),by show Ju b=_;rw[Lz b (rne b hb),hz];rfl,KX⟩
    ·obtain⟨z,hz,rfl⟩:=Rx b y hy k1;exact(h.rg.mem b).2 ⟨(g.FV hz).1,z,hz,GL⟩
   obtain⟨m4,Md,I6,e4,k4,LK,g4,rg4⟩:=Rg.mov_is (S:= {S with ob:=Ju,slot:=T}) g3 rg3 Vk M4 c rfl rfl;refine⟨m4,Md,I6,e4,k4,LK,g4,?_⟩;have hnd:=h.rg.nd;rw[TF]at hnd;have ML:=(List.nodup_cons.1 ((List.perm_middle (l₁:=p) (l₂:=q) (a:=fr)).nodup_iff.1 hnd)).1;rw[TF,List.map_append,List.map_cons,gN,tG (λk=>ML (by simp[k])),tG (λk=>ML (by simp[k]))];exact rg4
  ·rw[if_neg c];have GF:fr∉r:=λk=>by
    obtain⟨z,hz,KX⟩:=h.rg.obj k;rw[hx]at hz;cases hz;exact c KX
   refine⟨m3,Ju,S.root,rfl,Ka.refl _,λ_ _=>rfl,g3,?_⟩;rw[tG GF];refine⟨h.rg.nd,λb=>⟨λhb=> ?_,λ⟨k1,y,hy,GL⟩=> ?_⟩,h.rg.cy.on λb hb=>nx2 b (rne b hb),h.rg.hd,h.rg.bm,h.rg.ct⟩
   ·obtain⟨z,hz,KX⟩:=h.rg.obj hb;exact⟨λe=>GF (e▸hb),z.Oi (IG fr aaf z.b.name),by show Ju b=_;rw[Lz b (rne b hb),hz];rfl,KX⟩
   ·have Nt:b≠aaf:=λe=>by
     have NO:Ju b=some y:=hy;rw[e,M4]at NO;cases NO;exact c GL
    obtain⟨z,hz,rfl⟩:=Rx b y hy Nt;exact(h.rg.mem b).2 ⟨(g.FV hz).1,z,hz,GL⟩
 have WN:¬Fw.has {S with ob:=Md,slot:=T,root:=I6} fr:=λk=>by
  rcases(hT fr JG.1).1 k with e|e
  ·exact hne e.symm
  ·exact e.1 rfl
 obtain⟨m5,e5,g5⟩:=g4.give (a:=fr) (s:=s) (i:=i) hs hffr (h.out s) WN;obtain⟨S5,Xu⟩:∃S5,S5=Fw.Gi {S with ob:=Md,slot:=T,root:=I6} s fr:=⟨_,rfl⟩;have q1:S5.ob=Fv Md fr none:=by rw[Xu];unfold Fw.Gi;split<;>rfl
 have q2:S5.slot=T:=by rw[Xu];unfold Fw.Gi;split<;>rfl
 have q3:S5.root=I6:=by rw[Xu];unfold Fw.Gi;split<;>rfl
 have q4:S5.out=S.out:=by rw[Xu];unfold Fw.Gi;split<;>rfl
 have q5:S5.slots=S.slots:=by rw[Xu];unfold Fw.Gi;split<;>rfl
 have q6:S5.Fq=S.Fq:=by rw[Xu];unfold Fw.Gi;split<;>rfl
 have q7:S5.sl=(S.Gi s fr).sl:=by
  rw[Xu];unfold Fw.Gi;show(if(S.sl s).free.length+1=ai (S.sl s).Ft then _ else _:Fw).sl=(if(S.sl s).free.length+1=ai (S.sl s).Ft then _ else _:Fw).sl;split<;>rfl
 have k:Ren fr aaf S.ob S5.ob:=by
  refine⟨λc z hz=> ?_,λc' y hy=> ?_,JG.1,Yp.1,ho⟩
  ·rw[q1];by_cases e:c=fr
   ·rw[e,hx]at hz;cases hz;rw[e,gN,af _ _ hne];obtain⟨n,p,hn,_⟩:=k4.of M4;exact⟨n,p,hn⟩
   ·have UC:=live c z hz;rw[fZ e,af _ _ e];obtain⟨n,p,hn,_⟩:=k4.of (show Ju c=some (z.Oi (IG fr aaf z.b.name))by rw[Lz c UC,hz];rfl);exact⟨n,p,hn⟩
  ·rw[q1]at hy;obtain⟨hb,hy⟩:=aY hy;obtain⟨w,n,p,hw,rfl⟩:=k4.back hy;by_cases e:c'=aaf
   ·exact⟨fr,x,hx,by rw[e,gN]⟩
   ·obtain⟨z,hz,_⟩:=Rx c' w hw e;exact⟨c',z,hz,(fZ hb).symm⟩
 have nm5:∀c z,S.ob c=some z->IF S5.ob (IG fr aaf c)=IG fr aaf (IF S.ob c):=λc z hz=>by
  obtain⟨n,p,hn⟩:=k.VY c z hz;rw[cg hn,cg hz];rfl
 have nd5:∀c z,S.ob c=some z->G4 S5.ob (IG fr aaf c)=G4 S.ob c:=λc z hz=>by
  obtain⟨n,p,hn⟩:=k.VY c z hz;rw[gF hn,gF hz];rfl
 refine⟨m5,S5,?_,⟨by rw[Xu];exact g5,k.nod h.n,λv hv=> ?_,?_,?_,λb=> ?_,λb y hy GL=> ?_,?_,by rw[q4];exact h.out,λb u v hb QN _=> ?_,by rw[q3,LK 16 (.inr (by decide))];exact h.now,λb hb=> ?_,λb y hy GL=> ?_⟩,q7,k,⟨q6,q5,λf h1 h2=>by rw[q3];exact LK f (.inr (by omega))⟩,by rw[q3];exact LK 17 (.inr (by decide))⟩
 ·unfold oK;rw[g.U5 hx,Fj];show(if(0:Nat)≠0\/x.b.tag=0 then none else _)=_;rw[if_neg (by omega),Hb,Fj,Kt,Fj,e1,Fj,e2,Fj,e3,Fj,e4,Fj,e5]
 ·have:S5.has v↔Fw.has {S with ob:=Ju,slot:=T} v:=by unfold Fw.has;rw[q2,q5]
  rw[this,hT v hv];show v=aaf\/v≠fr/\S.has v↔_;rw[h.hs v hv];constructor
  ·rintro(rfl|⟨h1,z,hz⟩)
   ·obtain⟨n,p,hn⟩:=k.VY fr x hx;rw[gN]at hn;exact⟨_,hn⟩
   ·obtain⟨n,p,hn⟩:=k.VY v z hz;rw[fZ h1]at hn;exact⟨_,hn⟩
  ·rintro⟨y,hy⟩;obtain⟨c,z,_,_,hz,rfl,_,hc⟩:=k.back hy;by_cases e:c=fr
   ·rw[e,gN];exact .inl rfl
   ·rw[fZ e];exact .inr ⟨e,z,hz⟩
 ·have hfr4:fr∉r.map (IG fr aaf):=λhm=>by
   obtain⟨b,hb,e⟩:=List.mem_map.1 hm;by_cases q:b=fr
   ·rw[q,gN]at e;exact hne e
   ·rw[fZ q]at e;exact q e
  exact Rg.gone g4 rg4 hfr4 (.inl rfl) q1 (by rw[q3]) (by rw[q3]) (by rw[q3])
 ·refine List.pairwise_map.2 (List.Pairwise.imp_of_mem (fun {b c} hb hc V8 e=>V8 ?_) h.nd);obtain⟨zb,Mp⟩:=(h.mem b).1 hb;obtain⟨zc,hzc⟩:=(h.mem c).1 hc;exact tH (live b zb Mp) (live c zc hzc) e
 ·rw[List.mem_map];constructor
  ·rintro⟨c,hc,rfl⟩;obtain⟨z,hz⟩:=(h.mem c).1 hc;obtain⟨n,p,hn⟩:=k.VY c z hz;exact⟨_,hn⟩
  ·rintro⟨y,hy⟩;obtain⟨c,z,_,_,hz,rfl,_,hc⟩:=k.back hy;exact⟨c,(h.mem c).2 ⟨z,hz⟩,rfl⟩
 ·obtain⟨c,z,n,p,hz,rfl,rfl,UC⟩:=k.back hy;obtain⟨r1,r2⟩:=h.rf c z hz GL;refine⟨?_,r2⟩;show z.b.refs=_;have e6:(L.map (IG fr aaf)).map (IF S5.ob)=(L.map (IF S.ob)).map (IG fr aaf):=by
   rw[List.map_map,List.map_map];exact List.map_congr_left λb hb=>by
    obtain⟨zb,Mp⟩:=(h.mem b).1 hb;exact nm5 b zb Mp
  rw[e6,<-List.map_append,ss _ (λb hb e=> ?_),r1];refine tH ?_ UC e;rcases List.mem_append.1 hb with hb|hb
  ·obtain⟨d,hd,rfl⟩:=List.mem_map.1 hb;obtain⟨zd,hzd⟩:=(h.mem d).1 hd;rw[cg hzd];exact k.ne (h.n.Jt d zd hzd)
  ·exact k.ne (h.pn b hb)
 ·rw[q3,LK 17 (.inr (by decide)),h.Vh,List.filter_map,List.length_map];refine congrArg List.length (List.filter_congr λb hb=> ?_);obtain⟨zb,Mp⟩:=(h.mem b).1 hb;exact(nd5 b zb Mp).symm
 ·rw[Xu]at hb QN;obtain⟨r1,r2,r3⟩:=vO g4 (i:=i) hs hb QN;by_cases e:b=aaf
  ·obtain⟨n,p,hn⟩:=k.VY fr x hx;rw[gN]at hn;exact⟨_,by rw[e];exact hn⟩
  ·obtain⟨z,hz⟩:=h.full b u v r1 r2 e;obtain⟨n,p,hn⟩:=k.VY b z hz;rw[fZ r3]at hn;exact⟨_,hn⟩
 ·obtain⟨c,hc,rfl⟩:=List.mem_map.1 hb;exact k.Xo (h.pn c hc)
 ·obtain⟨c,z,_,_,hz,rfl,rfl,hc⟩:=k.back hy;exact h.nc c z hz GL
end Go.FC
namespace Go.FC
open Go.FP Go.Fy Go.Fz
def En(ob:Nat->Option Ob)(nm:Nat->List (List UInt8))(k:Ky)(d:List UInt8)(e:Nat):Prop:=∃a x,ob a=some x/\x.b.tag=1/\nm x.b.name=k.1/\x.b.typ=k.2/\x.d=d/\x.b.FB=e
def Ns(ob:Nat->Option Ob)(nm:Nat->List (List UInt8))(k:List (List UInt8)):Prop:=∃a x,ob a=some x/\x.b.tag=2/\nm a=k
theorem gM.ns{ob ob':Nat->Option Ob}(h:gM ob ob')(nm:Nat->List (List UInt8))(k:List (List UInt8)):Ns ob' nm k->Ns ob nm k:=by
 rintro⟨a,y,hy,ht,e⟩;obtain⟨x,hx,tx⟩:=h.2.2 a y hy ht;exact⟨a,x,hx,tx,e⟩
theorem my.en{ob ob':Nat->Option Ob}(h:my ob ob')(nm:Nat->List (List UInt8))(k:Ky)(d:List UInt8)(e:Nat):En ob nm k d e↔En ob' nm k d e:=by
 constructor
 ·rintro⟨a,x,hx,ht,h1,h2,h3,h4⟩;obtain⟨y,hy,s⟩:=h.1 a x hx ht;exact⟨a,y,hy,s.tag.trans ht,by rw[s.name];exact h1,s.typ.trans h2,s.d.trans h3,s.FB.trans h4⟩
 ·rintro⟨a,y,hy,ht,h1,h2,h3,h4⟩;obtain⟨x,hx,s⟩:=h.2 a y hy ht;exact⟨a,x,hx,s.tag.symm.trans ht,by rw[<-s.name];exact h1,s.typ.symm.trans h2,s.d.symm.trans h3,s.FB.symm.trans h4⟩
theorem gM.en{ob ob':Nat->Option Ob}(h:gM ob ob')(nm:Nat->List (List UInt8))(k:Ky)(d:List UInt8)(e:Nat):En ob nm k d e↔En ob' nm k d e:=h.two.en nm k d e
theorem Ren.ns{fr aaf:Nat}{ob ob':Nat->Option Ob}(h:Ren fr aaf ob ob'){nm:Nat->List (List UInt8)}(k:List (List UInt8)):Ns ob' (Fv nm aaf (nm fr)) k->Ns ob nm k:=by
 rintro⟨a,y,hy,ht,e⟩;obtain⟨c,z,_,_,hz,rfl,rfl,hc⟩:=h.back hy;exact⟨c,z,hz,ht,(h.Xt nm hc).symm.trans e⟩
theorem Ren.en{fr aaf:Nat}{ob ob':Nat->Option Ob}(h:Ren fr aaf ob ob'){nm:Nat->List (List UInt8)}(n:Hu ob nm)(k:Ky)(d:List UInt8)(e:Nat):En ob nm k d e↔En ob' (Fv nm aaf (nm fr)) k d e:=by
 constructor
 ·rintro⟨a,x,hx,ht,h1,h2,h3,h4⟩;obtain⟨u,v,hy⟩:=h.VY a x hx;exact⟨_,_,hy,ht,(h.Xt nm (h.ne (n.Jt a x hx))).trans h1,h2,h3,h4⟩
 ·rintro⟨a,y,hy,ht,h1,h2,h3,h4⟩;obtain⟨c,z,_,_,hz,rfl,rfl,hc⟩:=h.back hy;exact⟨c,z,hz,ht,(h.Xt nm (h.ne (n.Jt c z hz))).symm.trans h1,h2,h3,h4⟩
def bd(f:Nat->Nat):Nat->Nat
 |0=>0
 |n+1=>bd f n+f n
theorem gd{f g:Nat->Nat}:∀n,(∀t,t<n->f t=g t)->bd f n=bd g n
 |0,_=>rfl
 |n+1,h=>by rw[bd,bd,gd n λt ht=>h t (by omega),h n (by omega)]
theorem qn{f g:Nat->Nat}{s k:Nat}:∀n,s<n->g s+k=f s->(∀t,t<n->t≠s->f t=g t)->bd g n+k=bd f n
 |0,h,_,_=>absurd h (by omega)
 |n+1,h,e,ho=>by
  rw[bd,bd];by_cases c:s=n
  ·subst c;rw[gd (f:=f) (g:=g) s λt ht=>ho t (by omega) (by omega)];omega
  ·have:=qn n (by omega) e λt ht hne=>ho t (by omega) hne;rw[ho n (by omega) (Ne.symm c)];omega
theorem qp{f:Nat->Nat}:∀n,0<bd f n->∃t,t<n/\0<f t
 |0,h=>absurd h (by rw[bd];omega)
 |n+1,h=>by
  rw[bd]at h;by_cases c:0<f n
  ·exact⟨n,by omega,c⟩
  ·obtain⟨t,h1,h2⟩:=qp (f:=f) n (by omega);exact⟨t,by omega,h2⟩
def spT(S:Fw)(s c t:Nat):Nat:=if t≠s/\(S.sl t).Ft=c then(S.sl t).free.length else 0
def TG(S:Fw)(s c:Nat):Nat:=bd (spT S s c) S.Fq
theorem C6{S:Fw}{t c:Nat}(ht:t<S.Fq)(ho:S.out t=false)(hc:(S.sl t).Ft=c)(h1:1<=c)(hf:(S.sl t).free≠ []):∃q,S.fst c=q+1:=by
 cases e:S.fst c with
 |succ q=>exact⟨q,rfl⟩
 |zero=>
  refine absurd ?_ (vJ e t ht);unfold Fw.GY;rw[if_neg (by rw[ho];decide),if_neg (by omega),if_neg hf,hc]
variable{S:Fw}{m:Mm}{nm:Nat->List (List UInt8)}{r L ps:List Nat}
theorem mB{S:Fw}{t b:Nat}{l:List Nat}(GF:(S.sl t).free=b::l){a u i:Nat}(ha:(S.FD t l).At a u i)(hf:a∉((S.FD t l).sl u).free)(hne:a≠b):S.At a u i/\a∉(S.sl u).free:=by
 refine⟨GR.1 ha,?_⟩;by_cases e:u=t
 ·subst e;rw[S.FX]at hf;rw[GF];exact λk=>(List.mem_cons.1 k).elim hne hf
 ·rwa [S.FU l e]at hf
theorem W.Vl{s c:Nat}(h:W S m nm r L ps 0)(hs:s<S.Fq)(hc:(S.sl s).Ft=c)(h1:1<=c)(hex:∃t,t<S.Fq/\t≠s/\(S.sl t).Ft=c/\(S.sl t).free≠ []):
  ∃b t l j m',sT s c m=some (b,m')/\W (S.FD t l) m' nm r L ps b/\t<S.Fq/\t≠s/\(S.sl t).free=b::l/\(S.sl t).Ft=c/\S.At b t j/\S.ob b=none:=by
 have g:=h.g;have h9:c<=9:=by rw[<-hc];exact g.c9 hs
 obtain⟨x,e1,e2,e3⟩:=g.head hs;obtain⟨t,ht,PU,htc,htf⟩:=hex;have Ki:aR x=(S.sl s).free.length:=by unfold aR;rw[e2];omega
 have fin:∀(t:Nat) (b:Nat) (l:List Nat) (m':Mm),(S.sl t).free=b::l->G (S.FD t l) m'->W (S.FD t l) m' nm r L ps b:=λt b l m' GF g'=>h.took g' rfl rfl rfl rfl rfl λa u i ha hf hne=>⟨i,mB GF ha hf hne⟩;unfold sT;rw[e1,Fj,if_neg (by rw[e2];omega),Ki];by_cases c0:(S.sl s).free.length=0
 ·rw[if_pos c0];obtain⟨q,hq⟩:=C6 ht (h.out t) htc h1 htf;obtain⟨b,l,m',j,k1,k2,k3,k4,k5,k6⟩:=g.JN h1 h9 hq;have hqs:q≠s:=λe=>by subst e;rw[k1]at c0;simp at c0
  refine⟨b,q,l,j,m',?_,fin q b l m' k1 k4,k6.1,hqs,k1,k2,k6,k5⟩;rw[k3,Fj,if_neg (λk=>k rfl)]
 ·rw[if_neg c0];have hsf:(S.sl s).free≠ []:=λe=>c0 (by rw[e];rfl);have Kf:S.GY s=some c:=by
   unfold Fw.GY;rw[if_neg (by rw[h.out s];decide),if_neg (by omega),if_neg hsf,hc]
  obtain⟨m1,e4,g1⟩:=g.outOf hs Kf h9;obtain⟨q,hq⟩:=C6 (S:= {S with out:=Fv S.out s true}) ht ((af _ _ PU).trans (h.out t)) htc h1 htf;obtain⟨q1,q2,_⟩:=jM hq;have hqs:q≠s:=λe=>by
   subst e;unfold Fw.GY at q2;rw[if_pos (ak _ _ _)]at q2;cases q2
  obtain⟨b,l,m2,j,k1,k2,k3,k4,k5,k6⟩:=g1.JN h1 h9 hq;obtain⟨m3,e5,g3⟩:=k4.inTo (s:=s) (c:=c) hs (ak _ _ _) (by
   have e:((Fw.FD {S with out:=Fv S.out s true} q l).sl s)=S.sl s:=Fw.FU _ _ (Ne.symm hqs);unfold Fw.GY;rw[if_neg (by show¬Fv (Fv S.out s true) s false s=true;rw[ak];decide)];show(if((Fw.FD {S with out:=Fv S.out s true} q l).sl s).Ft=0 then some 0 else if((Fw.FD {S with out:=Fv S.out s true} q l).sl s).free= []then none else some ((Fw.FD {S with out:=Fv S.out s true} q l).sl s).Ft)=some c;rw[e,if_neg (by omega),if_neg hsf,hc]) h9
  have eo:Fv (Fv S.out s true) s false=S.out:=by
   rw[yM];funext u;by_cases q:u=s
   ·rw[q,ak,h.out s]
   ·rw[af _ _ q]
  have g3':G (S.FD q l) m3:=by
   have g4:G {(Fw.FD {S with out:=Fv S.out s true} q l)with out:=Fv (Fv S.out s true) s false} m3:=g3;rw[eo]at g4;exact g4
  refine⟨b,q,l,j,m3,?_,fin q b l m3 k1 g3',q1,hqs,k1,k2,k6,k5⟩;rw[e4,Fj,k3,Fj,if_neg (λk=>k rfl),e5,Fj]
theorem vQ{s c:Nat}(h1:1<=c):∀(l:List Nat) (S:Fw) (m:Mm) (nm:Nat->List (List UInt8)) (r L ps:List Nat),W S m nm r L ps 0->s<S.Fq->(S.sl s).Ft=c->(∀a,a∈l↔∃i,S.At a s i/\a∉(S.sl s).free)->l.Nodup->l≠ []->l.length<=TG S s c->
  ∃q m' S' Ja r' L',iC s c l m=some (q,m')/\W S' m' Ja r' L' (ps.map (bj q)) 0/\(S'.sl s).Ft=0/\q.length=l.length/\r'.length=r.length/\ik S S'/\(∀p∈ps,Ja (bj q p)=nm p)/\(∀k,Ns S'.ob Ja k->Ns S.ob nm k)/\∀k d e,En S.ob nm k d e↔En S'.ob Ja k d e
 | [],_,_,_,_,_,_,_,_,_,_,_,h,_=>absurd rfl h
 |a::l,S,m,nm,r,L,ps,h,hs,hc,hl,hnd,_,Ki=>by
  obtain⟨i,GG,haf⟩:=(hl a).1 (by simp);obtain⟨x,hx⟩:=h.full a s i GG haf (h.g.JO GG).1;obtain⟨t0,k1,k2⟩:=qp S.Fq (show 0<bd (spT S s c) S.Fq by rw[List.length_cons]at Ki;unfold TG at Ki;omega);obtain⟨b,t,lf,j,m1,e1,KU,ht,PU,GF,htc,Nt,hbn⟩:=h.Vl hs hc h1 (by
   unfold spT at k2;split at k2
   ·rename_i k3
    exact⟨t0,k1,k3.1,k3.2,λe=>by rw[e]at k2;simp at k2⟩
   ·omega)
  have hcls:∀u,((S.FD t lf).sl u).Ft=(S.sl u).Ft:=λu=>S.Gr t u lf;have hsl1:(S.FD t lf).sl s=S.sl s:=S.FU lf (Ne.symm PU);have hat1:(S.FD t lf).At a s i:=GR.2 GG;have Yj:=(h.g.PY hx GG).2.1;have hbf:b∉((S.FD t lf).sl t).free:=by
   have:=h.g.wf.nodup t ht;rw[GF]at this;rw[S.FX];exact(List.nodup_cons.1 this).1
  obtain⟨m2,S2,e2,QC,hsl2,Xv,Xw,_⟩:=KU.moved (fr:=a) (aaf:=b) (s:=s) (i:=i) (t:=t) (j:=j) hx hat1 (GR.2 Nt) hbf hbn (by rw[hcls,htc,Yj,hc]);have Yf:∀q m',iC s c l m2=some (q,m')->iC s c (a::l) m=some ((a,b)::q,m'):=λq m' e=>by
   rw[iC,e1,Fj,e2,Fj,e,Fj]
  have LY:=λk d e=>Xv.en h.n k d e;have SR:=λk=>Xv.ns (nm:=nm) k;have hfo:∀q p,bj q (IG a b p)=bj ((a,b)::q) p:=λq p=>by
   unfold bj IG;rw[List.foldl_cons];by_cases e:p=a
   ·rw[if_pos e,if_pos e.symm]
   ·rw[if_neg e,if_neg (Ne.symm e)]
  have KC:∀q,(ps.map (IG a b)).map (bj q)=ps.map (bj ((a,b)::q)):=λq=>by
   rw[List.map_map];exact List.map_congr_left λp _=>hfo q p
  have PL:∀p∈ps,Fv nm b (nm a) (IG a b p)=nm p:=λp hp=>Xv.Xt nm (Xv.ne (h.pn p hp));have P6:S2.sl s=if(S.sl s).free.length+1=ai c then⟨0,[]⟩else⟨c,a::(S.sl s).free⟩:=by
   rw[hsl2];unfold Fw.Gi;rw[hsl1,hc];by_cases q:(S.sl s).free.length+1=ai c
   ·rw[if_pos q,if_pos q];exact Fw.Gm _ _ _ _
   ·rw[if_neg q,if_neg q];show((S.FD t lf).FD s (a::(S.sl s).free)).sl s=_;rw[Fw.FX,hcls,hc]
  have Vm:∀u,u≠s->S2.sl u=(S.FD t lf).sl u:=λu hu=>by
   rw[hsl2];unfold Fw.Gi;split
   ·exact Fw.Gb _ _ _ hu
   ·exact Fw.FU _ _ hu
  have WN:(a::(S.sl s).free).Nodup:=List.nodup_cons.2 ⟨haf,h.g.wf.nodup s hs⟩;cases l with
  |nil=>
   have hlen:(S.sl s).free.length+1=ai c:=by
    have k3:=h.g.wf.lt s hs (by omega);have k4:(S.blocks s c).length<=(a::(S.sl s).free).length:=by
     refine dL (λj=>(a::(S.sl s).free).getD j 0) _ _ (ic (by have:=Nq c h1 (by rw[<-hc];exact h.g.c9 hs);omega) _ _) λb hb=> ?_;obtain⟨j,_,j2,ej⟩:=(iO _ _ _).1 hb;have Nt:S.At b s j:=⟨hs,by rw[hc];omega,by unfold Fw.ba;rw[hc];exact ej⟩;have hm:b∈a::(S.sl s).free:=by
      by_cases q:b∈(S.sl s).free
      ·exact List.mem_cons_of_mem _ q
      ·have:=(hl b).2 ⟨j,Nt,q⟩;simp at this;simp[this]
     obtain⟨n,hn,en⟩:=List.getElem_of_mem hm;exact⟨n,hn,by rw[<-en];exact(List.getElem_eq_getD (h:=hn) 0)⟩
    have k5:(S.blocks s c).length=ai c:=lF _ _ _ _;rw[k5,List.length_cons]at k4;rw[hc]at k3;omega
   refine⟨[(a,b)],m2,S2,Fv nm b (nm a),r.map (IG a b),L.map (IG a b),Yf [] m2 rfl,?_,by rw[P6,if_pos hlen],rfl,List.length_map _,(ik.trans (S':=S.FD t lf) ⟨rfl,rfl,λ_ _ _=>rfl⟩ Xw),λp hp=>by rw[<-hfo];exact PL p hp,SR,LY⟩;have:=KC [];rw[<-this];rw[show(ps.map (IG a b)).map (bj [])=ps.map (IG a b)from(List.map_congr_left λ_ _=>rfl).trans (List.map_id _)];exact QC
  |cons a2 l=>
   have hnlen:(S.sl s).free.length+1≠ai c:=λe=>by
    obtain⟨i2,hat2,haf2⟩:=(hl a2).1 (by simp);have hne:a2≠a:=by
     have:=(List.nodup_cons.1 hnd).1;exact λe=>this (by rw[<-e];simp)
    have:(a2::a::(S.sl s).free).length<=ai c:=by
     refine dL (λj=>S.ba s j) _ _ (List.nodup_cons.2 ⟨λk=> ?_,WN⟩) λb hb=> ?_
     ·rcases List.mem_cons.1 k with k|k
      ·exact hne k
      ·exact haf2 k
     ·rcases List.mem_cons.1 hb with rfl|hb
      ·exact⟨i2,by rw[<-hc];exact hat2.2.1,hat2.2.2⟩
      ·rcases List.mem_cons.1 hb with rfl|hb
       ·exact⟨i,by rw[<-hc];exact GG.2.1,GG.2.2⟩
       ·obtain⟨j,hj⟩:=h.g.wf.Nr s hs b hb;exact⟨j,by rw[<-hc];exact hj.2.1,hj.2.2⟩
    rw[List.length_cons,List.length_cons]at this;omega
   rw[if_neg hnlen]at P6;have PR:S2.sa s=S.sa s:=by
    unfold Fw.sa Fw.base;rw[Xw.Fq,Xw.slots];rfl
   have hAt2:∀b j,S2.At b s j↔S.At b s j:=λb j=>by
    unfold Fw.At Fw.ba;rw[P6,Xw.Fq,PR,hc];exact Iff.rfl
   obtain⟨q,m',S',Ja,r',L',e3,hW',hz,hq,hr,hsm',hnm',hns',hen'⟩:=vQ h1 (a2::l) S2 m2 _ _ _ _ QC (by rw[Xw.Fq];exact hs) (by rw[P6]) (λb=>by
    rw[P6];constructor
    ·intro hb;obtain⟨j,k3,k4⟩:=(hl b).1 (List.mem_cons_of_mem _ hb);exact⟨j,(hAt2 b j).2 k3,λk=>(List.mem_cons.1 k).elim (λe=>(List.nodup_cons.1 hnd).1 (e▸hb)) k4⟩
    ·rintro⟨j,k3,k4⟩;have:=(hl b).2 ⟨j,(hAt2 b j).1 k3,λk=>k4 (List.mem_cons_of_mem _ k)⟩;rcases List.mem_cons.1 this with e|e
     ·exact absurd (by rw[e];simp) k4
     ·exact e) (List.nodup_cons.1 hnd).2 (by simp) (by
    have k3:TG S2 s c+1=TG S s c:=by
     unfold TG;rw[Xw.Fq];refine qn (s:=t) S.Fq ht ?_ λu hu hne=> ?_
     ·unfold spT;rw[if_pos ⟨PU,by rw[Vm t PU,hcls,htc]⟩,if_pos ⟨PU,htc⟩,Vm t PU,S.FX,GF];rfl
     ·unfold spT;by_cases q:u=s
      ·rw[if_neg (λk=>k.1 q),if_neg (λk=>k.1 q)]
      ·rw[Vm u q,S.FU lf hne]
    rw[List.length_cons]at Ki;omega)
   refine⟨(a,b)::q,m',S',Ja,r',L',Yf q m' e3,by rw[<-KC];exact hW',hz,by rw[List.length_cons,hq];rfl,hr.trans (List.length_map _),ik.trans (S':=S.FD t lf) ⟨rfl,rfl,λ_ _ _=>rfl⟩ (Xw.trans hsm'),λp hp=>by rw[<-hfo,hnm' _ (List.mem_map.2 ⟨p,hp,rfl⟩)];exact PL p hp,λk hk=>SR k (hns' k hk),λk d e=>(LY k d e).trans (hen' k d e)⟩
end Go.FC
