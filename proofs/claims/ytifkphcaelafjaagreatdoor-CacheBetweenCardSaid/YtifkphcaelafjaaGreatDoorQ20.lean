/-
  Lemmas on the way to the row. No condition beyond their own.
-/
import Derived.Test.YtifkphcaelafjaaGreatDoorQ12
import Derived.Test.YtifkphcaelafjaaGreatDoorQ19
set_option maxHeartbeats 25600000
set_option maxRecDepth 100000
set_option linter.unusedVariables false
set_option linter.unusedSimpArgs false
namespace Go.FC
open Go.FP Go.Fy Go.Fz
theorem su(f:Nat->Nat):∀n,((List.range n).map f).sum=bd f n
 |0=>rfl
 |n+1=>by rw[List.range_succ,List.map_append,List.sum_append,su f n,bd];simp
theorem qs(all:List Sl)(s:Nat)(x:Sl)(l:List Sl)(b:Option (Nat×Nat)):iW all s (x::l) b=iW all (s+1) l (if x.Ft=0\/bO all x.Ft-aR x<x.live then b else match b with
 |none=>some (s,x.live)
 |some q=>if x.live<q.2 then some (s,x.live)else some q):=rfl
theorem qt(all:List Sl):∀(l:List Sl) (s:Nat) (b:Option (Nat×Nat)),iW all s l b=none->b=none/\∀x∈l,x.Ft=0\/bO all x.Ft-aR x<x.live
 | [],s,b,h=>⟨h,λx hx=>by cases hx⟩
 |x::l,s,b,h=>by
  rw[qs]at h;obtain⟨h1,h2⟩:=qt all l (s+1) _ h;by_cases c:x.Ft=0\/bO all x.Ft-aR x<x.live
  ·rw[if_pos c]at h1;exact⟨h1,λy hy=>(List.mem_cons.1 hy).elim (λe=>e▸c) (h2 y)⟩
  ·rw[if_neg c]at h1;cases b with
   |none=>cases h1
   |some q=>
    exfalso;dsimp only at h1;split at h1<;>cases h1
theorem M5(all:List Sl):∀(l:List Sl) (s:Nat) (b:Option (Nat×Nat)) (q:Nat×Nat),iW all s l b=some q->b=some q\/∃i x,l[i]? =some x/\q.1=s+i/\¬(x.Ft=0\/bO all x.Ft-aR x<x.live)
 | [],s,b,q,h=> .inl h
 |x::l,s,b,q,h=>by
  rw[qs]at h;rcases M5 all l (s+1) _ q h with h1|⟨i,y,k1,k2,k3⟩
  ·by_cases c:x.Ft=0\/bO all x.Ft-aR x<x.live
   ·rw[if_pos c]at h1;exact .inl h1
   ·rw[if_neg c]at h1;have new:∀v:Nat,some (s,v)=some q->∃i y,(x::l)[i]? =some y/\q.1=s+i/\¬(y.Ft=0\/bO all y.Ft-aR y<y.live):=λv e=>by
     cases e;exact⟨0,x,rfl,rfl,c⟩
    cases b with
    |none=>exact .inr (new _ h1)
    |some p=>
     dsimp only at h1;split at h1
     ·exact .inr (new _ h1)
     ·exact .inl h1
  ·exact .inr ⟨i+1,y,by rw[List.getElem?_cons_succ];exact k1,by omega,k3⟩
variable{S:Fw}{m:Mm}{nm:Nat->List (List UInt8)}{r L ps:List Nat}
theorem C7(g:G S m):∃hd:Nat->Sl,(∀s,s<S.Fq->(hd s).Ft=(S.sl s).Ft/\(hd s).live+(S.sl s).free.length=ai (S.sl s).Ft/\dR s m=some (hd s))/\jn m 0 m.Fq=some ((List.range S.Fq).map hd):=by
 refine⟨λs=>(dR s m).getD ⟨0,0,0,0,0⟩,λs hs=> ?_,?_⟩
 ·obtain⟨x,e1,e2,e3⟩:=g.head hs;dsimp only;rw[e1];exact⟨e2,e3,rfl⟩
 ·have key:∀k s,s+k=S.Fq->jn m s k=some ((List.range' s k).map λs=>(dR s m).getD ⟨0,0,0,0,0⟩):=λk=>by
   induction k with
   |zero=>intro s _;rfl
   |succ k ih=>
    intro s e;obtain⟨x,e1,_⟩:=g.head (s:=s) (by omega);rw[jn,e1,Fj,ih (s+1) (by omega),Fj,List.range'_succ,List.map_cons,e1];rfl
  rw[g.NL.1,key S.Fq 0 (by omega),List.range_eq_range']
def rmS(S:Fw)(c:Nat):Nat:=bd (λt=>if(S.sl t).Ft=c then(S.sl t).free.length else 0) S.Fq
theorem vR{s c:Nat}(hs:s<S.Fq)(hc:(S.sl s).Ft=c):TG S s c+(S.sl s).free.length=rmS S c:=by
 unfold TG rmS;refine qn S.Fq hs ?_ λt ht hne=> ?_
 ·unfold spT;rw[if_neg (λk=>k.1 rfl),if_pos hc,Nat.zero_add]
 ·unfold spT;by_cases q:(S.sl t).Ft=c
  ·rw[if_pos q,if_pos ⟨hne,q⟩]
  ·rw[if_neg q,if_neg (λk=>q k.2)]
theorem W.SY(h:W S m nm r L ps 0):∃res,og m=some res/\(res=none->∀s,s<S.Fq->(S.sl s).Ft≠0->TG S s (S.sl s).Ft+(S.sl s).free.length<ai (S.sl s).Ft)/\
  ∀s,res=some s->s<S.Fq/\(S.sl s).Ft≠0/\ai (S.sl s).Ft<=TG S s (S.sl s).Ft+(S.sl s).free.length:=by
 obtain⟨hd,h1,h2⟩:=C7 h.g;have hroom:∀c,bO ((List.range S.Fq).map hd) c=rmS S c:=λc=>by
  unfold bO rmS;rw[List.map_map,su];refine gd _ λt ht=> ?_;obtain⟨k1,k2,_⟩:=h1 t ht;show(if(hd t).Ft=c then aR (hd t)else 0)=_;rw[k1];unfold aR;rw[k1,show ai (S.sl t).Ft-(hd t).live=(S.sl t).free.length by omega]
 have Yz:∀s,s<S.Fq->((hd s).Ft=0\/bO ((List.range S.Fq).map hd) (hd s).Ft-aR (hd s)<(hd s).live↔(S.sl s).Ft=0\/TG S s (S.sl s).Ft+(S.sl s).free.length<ai (S.sl s).Ft):=λs hs=>by
  obtain⟨k1,k2,_⟩:=h1 s hs;have:=vR (S:=S) hs rfl;have k3:aR (hd s)=(S.sl s).free.length:=by unfold aR;rw[k1];omega
  rw[k1,hroom,k3,<-this];refine or_congr Iff.rfl ?_;omega
 have hgood:qW ((List.range S.Fq).map hd)=true:=by
  unfold qW;rw[List.all_eq_true];intro x hx;obtain⟨s,hs,rfl⟩:=List.mem_map.1 hx;obtain⟨k1,k2,_⟩:=h1 s (List.mem_range.1 hs);rw[k1,Bool.and_eq_true];exact⟨by rw[Nat.ble_eq];exact h.g.c9 (List.mem_range.1 hs),by rw[Nat.ble_eq];omega⟩
 unfold og;rw[h2,Fj,if_neg (by rw[hgood];decide)];cases e:iW ((List.range S.Fq).map hd) 0 ((List.range S.Fq).map hd) none with
 |none=>
  refine⟨none,rfl,λ_ s hs h0=> ?_,λs k=>by cases k⟩;have:=(Yz s hs).1 ((qt _ _ _ _ e).2 (hd s) (List.mem_map.2 ⟨s,List.mem_range.2 hs,rfl⟩));exact this.resolve_left h0
 |some q=>
  rcases M5 _ _ _ _ _ e with k|⟨i,x,k1,k2,k3⟩
  ·cases k
  ·rw[List.getElem?_map]at k1;have hi:i<S.Fq:=by
    by_cases c:i<S.Fq
    ·exact c
    ·rw[List.getElem?_eq_none (by rw[List.length_range];omega)]at k1;cases k1
   rw[List.getElem?_range hi]at k1;cases k1;have hq:q.1=i:=by omega
   have k4:=mt (Yz i hi).2 k3;obtain⟨l,e3,_,hl⟩:=h.g.Mr hi;have hw:∀l:List Nat,(∀a∈l,∃i',S.At a i i'/\a∉(S.sl i).free)->kY m l=some ():=λl=>by
    induction l with
    |nil=>intro _;rfl
    |cons a l ih=>
     intro hl;obtain⟨i',q1,q2⟩:=hl a (by simp);obtain⟨x,hx⟩:=h.full a i i' q1 q2 (h.g.JO q1).1;rw[kY,h.g.aaa hx,Fj,ih λb hb=>hl b (by simp[hb])]
   refine⟨some i,?_,λk=>(by cases k),λs k=>(by cases k;exact⟨hi,λc=>k4 (.inl c),by omega⟩)⟩;show((kJ q.1 m).bind λa=>(kY m a).bind λ_=>some (some q.1))=_;rw[hq,e3,Fj,hw l λa ha=>(hl a).1 ha,Fj]
theorem W.Sc(h:W S m nm r L ps 0)(NE:S.root 20<=4000000000):
  (gV m=some (none,m)/\∀s,s<S.Fq->(S.sl s).Ft≠0->TG S s (S.sl s).Ft+(S.sl s).free.length<ai (S.sl s).Ft)\/
  ∃q m' S' Ja r' L',gV m=some (some q,m')/\W S' m' Ja r' L' (ps.map (bj q)) 0/\(∃s,s<S.Fq/\(S'.sl s).Ft=0)/\r'.length=r.length/\S'.Fq=S.Fq/\S'.slots=S.slots/\(∀f,f=16\/f=18\/f=19->S'.root f=S.root f)/\S'.root 20<=S.root 20+32/\(∀p∈ps,Ja (bj q p)=nm p)/\(∀k,Ns S'.ob Ja k->Ns S.ob nm k)/\∀k d e,En S.ob nm k d e↔En S'.ob Ja k d e:=by
 obtain⟨res,e1,hn,Xw⟩:=h.SY;cases res with
 |none=>exact .inl ⟨by unfold gV;rw[e1,Fj],hn rfl⟩
 |some s=>
  obtain⟨hs,h0,Ki⟩:=Xw s rfl;obtain⟨x,e2,hxc,Pc⟩:=h.g.head hs;obtain⟨l,e3,hnd,hl⟩:=h.g.Mr hs;have h9:=h.g.c9 hs;have hle:l.length+(S.sl s).free.length<=ai (S.sl s).Ft:=by
   rw[<-List.length_append];refine dL (λj=>S.ba s j) _ _ (List.nodup_append.2 ⟨hnd,h.g.wf.nodup s hs,λa ha b hb e=> ?_⟩) λb hb=> ?_
   ·obtain⟨i,_,q2⟩:=(hl a).1 ha;exact q2 (e▸hb)
   ·rcases List.mem_append.1 hb with hb|hb
    ·obtain⟨i,q1,_⟩:=(hl b).1 hb;exact⟨i,q1.2.1,q1.2.2⟩
    ·obtain⟨j,hj⟩:=h.g.wf.Nr s hs b hb;exact⟨j,hj.2.1,hj.2.2⟩
  have h32:=(Nq (S.sl s).Ft (by omega) h9).2.2.2.1;have hne:l≠ []:=λe=>by
   have k3:=h.g.wf.lt s hs h0;have k4:(S.blocks s (S.sl s).Ft).length<=(S.sl s).free.length:=by
    refine dL (λj=>(S.sl s).free.getD j 0) _ _ (ic (by have:=Nq (S.sl s).Ft (by omega) h9;omega) _ _) λb hb=> ?_;obtain⟨j,_,j2,ej⟩:=(iO _ _ _).1 hb;have Nt:S.At b s j:=⟨hs,by omega,ej⟩;have hm:b∈(S.sl s).free:=by
     by_cases q:b∈(S.sl s).free
     ·exact q
     ·have:=(hl b).2 ⟨j,Nt,q⟩;rw[e]at this;cases this
    obtain⟨n,hn,en⟩:=List.getElem_of_mem hm;exact⟨n,hn,by rw[<-en];exact(List.getElem_eq_getD (h:=hn) 0)⟩
   have k5:(S.blocks s (S.sl s).Ft).length=ai (S.sl s).Ft:=lF _ _ _ _;omega
  obtain⟨q,m1,S1,OW,r1,L1,e4,hW,hz,hq,hr,MU,PL,SR,LY⟩:=vQ (s:=s) (c:=(S.sl s).Ft) (by omega) l S m nm r L ps h hs rfl hl hnd hne (by omega);have h20':S1.root 20=S.root 20:=MU.root 20 (by decide) (by decide);obtain⟨m2,e5,QC⟩:=hW.FG (f:=20) (v:=S.root 20+q.length) (.inr (.inr (.inr rfl))) (.inl (by omega)) (λk=>by cases k);refine .inr ⟨q,m2,_,OW,r1,L1,?_,QC,⟨s,hs,hz⟩,hr,MU.Fq,MU.slots,λf hf=> ?_,?_,PL,SR,LY⟩
  ·unfold gV;rw[e1,Fj];show((dR s m).bind _)=_;rw[e2,Fj,e3,Fj,hxc,e4,Fj,hW.g.Hh (by decide) (.inr (by decide)),Fj,h20',e5,Fj]
  ·show Fv S1.root 20 _ f=_;rw[af _ _ (by omega)];exact MU.root f (by omega) (by omega)
  ·rw[show Fw.root {S1 with root:=Fv S1.root 20 (S.root 20+q.length)} 20=S.root 20+q.length from ak S1.root 20 (S.root 20+q.length)];omega
end Go.FC
namespace Go.FC
open Go.FP Go.Fy Go.Fz
theorem gM.less{ob ob':Nat->Option Ob}{nm:Nat->List (List UInt8)}{a:Nat}{x:Ob}(h:gM (Fv ob a none) ob')(n:Hu ob nm)(hx:ob a=some x)(ht:x.b.tag=1)(k:Ky)(d:List UInt8)(e:Nat):
  En ob' nm k d e↔En ob nm k d e/\k≠(nm x.b.name,x.b.typ):=by
 rw[<-h.en nm k d e];constructor
 ·rintro⟨b,y,hy,GL,h1,h2,h3,h4⟩;obtain⟨hb,hy⟩:=aY hy;refine⟨⟨b,y,hy,GL,h1,h2,h3,h4⟩,λe=>hb ?_⟩;subst e;exact n.ue b y a x hy GL hx ht (n.inj (n.Jt b y hy) (n.Jt a x hx) h1) h2
 ·rintro⟨⟨b,y,hy,GL,h1,h2,h3,h4⟩,hk⟩;have hb:b≠a:=λe=>by
   subst e;rw[hx]at hy;cases hy;exact hk (Prod.ext h1.symm h2.symm)
  exact⟨b,y,(af _ _ hb).trans hy,GL,h1,h2,h3,h4⟩
variable{S:Fw}{m:Mm}{nm:Nat->List (List UInt8)}{r L ps:List Nat}{ho:Nat}
theorem W.JZ(h:W S m nm r L ps ho){a:Nat}{x:Ob}(hx:S.ob a=some x)(ht:x.b.tag=1):a∈r:=(h.rg.mem a).2 ⟨(h.g.FV hx).1,x,hx,ht⟩
theorem W.Sd(h:W S m nm r L ps ho)(hp:ps.length<900){a:Nat}{x:Ob}(hx:S.ob a=some x)(ht:x.b.tag=1)(hb:S.root 18+S.root 19<4000000000):
  ∃m' S' r' L',tU a m=some ((nm x.b.name,x.b.typ),m')/\W S' m' nm r' L' ps ho/\r'.length+1=r.length/\gM (Fv S.ob a none) S'.ob/\S'.Fq=S.Fq/\S'.slots=S.slots/\S'.root 16=S.root 16/\S'.root 20=S.root 20/\S'.root 18+S'.root 19=S.root 18+S.root 19+1:=by
 obtain⟨f,hf,hff⟩:∃f,f=(if bM (S.root 16) x.b.FB=true then 19 else 18)/\(f=18\/f=19):=⟨_,rfl,by split<;>simp⟩;obtain⟨m1,e1,KU⟩:=h.FG (f:=f) (v:=S.root f+1) (by omega) (.inl (by rcases hff with k|k<;>rw[k]<;>omega)) (λk=>by omega);obtain⟨p,q,TF⟩:=List.append_of_mem (h.JZ hx ht);rw[TF]at KU;obtain⟨m2,S2,L2,e2,QC,hE,hS⟩:=KU.IV hp;have YA:S2.root 16=S.root 16:=(hS.root 16 (by decide) (by decide)).trans (af S.root (S.root f+1) (by omega));have r20:S2.root 20=S.root 20:=(hS.root 20 (by decide) (by decide)).trans (af S.root (S.root f+1) (by omega));have r18:S2.root 18=Fv S.root f (S.root f+1) 18:=hS.root 18 (by decide) (by decide);have r19:S2.root 19=Fv S.root f (S.root f+1) 19:=hS.root 19 (by decide) (by decide);refine⟨m2,S2,p++q,L2,?_,QC,by rw[TF];simp;omega,hE,hS.Fq,hS.slots,YA,r20,?_⟩
 ·unfold tU;rw[kC h.g hx ht,Fj,<-hf];unfold bK;rw[h.g.Hh (by omega) (.inr (by omega)),Fj,e1,Fj,KU.n.Vb KU.g hx ht,Fj,e2,Fj]
 ·rw[r18,r19];rcases hff with k|k<;>subst k
  ·rw[ak,af _ _ (by decide)];omega
  ·rw[ak,af _ _ (by decide)];omega
def usO(ob:Nat->Option Ob)(a:Nat):Nat:=match ob a with
 |some x=>x.b.used
 |none=>0
def exO(ob:Nat->Option Ob)(a:Nat):Nat:=match ob a with
 |some x=>x.b.FB
 |none=>0
theorem vS(g:G S m):∀l:List Nat,(∀a∈l,∃x,S.ob a=some x/\x.b.tag=1)->qX m l=some (l.map λa=>(usO S.ob a,bM (S.root 16) (exO S.ob a)))
 | [],_=>rfl
 |a::l,h=>by
  obtain⟨x,hx,ht⟩:=h a (by simp);have e1:usO S.ob a=x.b.used:=by unfold usO;rw[hx]
  have e2:exO S.ob a=x.b.FB:=by unfold exO;rw[hx]
  rw[qX,Eb g hx ht,Fj,kC g hx ht,Fj,vS g l λb hb=>h b (by simp[hb]),Fj,List.map_cons,e1,e2]
theorem P7:∀(l:List Nat) (k:Nat) (S:Fw) (m:Mm),W S m nm r L ps ho->(∀a∈l,∃x,S.ob a=some x/\x.b.tag=1)->∃m' ob',J4 l k m=some m'/\W {S with ob:=ob'} m' nm r L ps ho/\Ij S.ob ob'
 | [],k,S,m,h,_=>⟨m,S.ob,by rw[J4],h,Ij.refl _⟩
 |a::l,0,S,m,h,_=>⟨m,S.ob,rfl,h,Ij.refl _⟩
 |a::l,k+1,S,m,h,ha=>by
  obtain⟨x,hx,ht⟩:=ha a (by simp);obtain⟨m1,KW,e1,h1,s1,_⟩:=h.Vi hx ht (u:=0) (by decide);obtain⟨m2,Ju,e2,h2,s2⟩:=P7 l k _ m1 h1 (λb hb=>by
   obtain⟨y,hy,GL⟩:=ha b (by simp[hb]);obtain⟨z,hz,s⟩:=s1.1 b y hy;exact⟨z,hz,s.tag.trans GL⟩)
  exact⟨m2,Ju,by rw[J4,e1,Fj,e2],h2,s1.trans s2⟩
theorem Ol:∀(k:Nat) (S:Fw) (m:Mm) (r:List Nat),W S m nm r L ps ho->r≠ []->∃m' root' r',kZ 13 k m=some m'/\W {S with root:=root'} m' nm r' L ps ho/\(∀f,f≠13->root' f=S.root f)/\r'.length=r.length
 |0,S,m,r,h,_=>⟨m,S.root,r,rfl,h,λ_ _=>rfl,rfl⟩
 |k+1,S,m,r,h,hr=>by
  cases r with
  |nil=>exact absurd rfl hr
  |cons a q=>
   obtain⟨m1,e1,g1,rg1⟩:=h.rg.Xk h.g;have h1:=h.Oe (ob':=S.ob) (ps':=ps) g1 (Ij.refl _) rg1 h.rf (af _ _ (by decide)) (by rw[af _ _ (by decide)];exact h.now) h.pn;obtain⟨m2,Hi,r2,e2,h2,Gc,hl⟩:=Ol k _ m1 _ h1 (by simp);refine⟨m2,Hi,r2,?_,h2,λf hf=>(Gc f hf).trans (af _ _ hf),by rw[hl];simp⟩;rw[kZ,e1,Fj];exact e2
theorem Hw:∀l:List (Nat×Bool),Ge l<=l.length
 | []=>Fm _
 |q::l=>by
  rw[Ge,List.length_cons];have:=Hw l;split<;>omega
theorem C8{l:List (Nat×Bool)}(h:l≠ []):cB l<l.length:=by
 have:=Hw l;have:0<l.length:=List.length_pos_iff.2 h;unfold cB;split<;>omega
theorem W.Vn(h:W S m nm r L ps 0)(hp:ps.length<900)(hb:S.root 18+S.root 19<4000000000):
  (r= []/\jI m=some (none,m))\/∃k d e m' S' r' L',En S.ob nm k d e/\jI m=some (some (k,bM (S.root 16) e),m')/\W S' m' nm r' L' ps 0/\r'.length+1=r.length/\S'.Fq=S.Fq/\S'.slots=S.slots/\S'.root 16=S.root 16/\S'.root 20=S.root 20/\
   S'.root 18+S'.root 19=S.root 18+S.root 19+1/\(∀k,Ns S'.ob nm k->Ns S.ob nm k)/\∀k' d' e',En S'.ob nm k' d' e'↔En S.ob nm k' d' e'/\k'≠k:=by
 have hall:∀a∈r,∃x,S.ob a=some x/\x.b.tag=1:=λa ha=>h.rg.obj ha;have eg:yA m=some r:=by
  have:=h.rlen;unfold yA;rw[h.rg.aad h.g,Fj,if_neg (by omega)]
 have es:=vS h.g r hall;by_cases hr:r= []
 ·subst hr;refine .inl ⟨rfl,?_⟩;unfold jI;rw[eg,Fj,es,Fj];exact if_pos rfl
 ·obtain⟨l,hl⟩:=Fp (r.map λa=>(usO S.ob a,bM (S.root 16) (exO S.ob a)));rw[<-hl]at es;have G1:l.length=r.length:=by rw[hl];exact List.length_map _
  have hne:l≠ []:=λe=>hr (List.eq_nil_of_length_eq_zero (by rw[<-G1,e];rfl));have FR:=C8 hne;obtain⟨m1,KW,e1,h1,s1⟩:=P7 r (Ge l) S m h hall;obtain⟨m2,Hi,r2,e2,h2,Gc,Iu⟩:=Ol (cB l) _ m1 r h1 hr;have PX:r.getD (cB l) 0∈r:=by
   rw[List.getD_eq_getElem?_getD,Fl (by omega),Option.getD_some];exact List.getElem_mem _
  obtain⟨x,hx,ht⟩:=hall _ PX;obtain⟨y,hy,sy⟩:=s1.1 _ x hx;have q18:Hi 18=S.root 18:=Gc 18 (by decide);have q19:Hi 19=S.root 19:=Gc 19 (by decide);have q16:Hi 16=S.root 16:=Gc 16 (by decide);have q20:Hi 20=S.root 20:=Gc 20 (by decide);obtain⟨m3,S3,r3,L3,e3,h3,O2,hE,t1,t2,t3,t4,t5⟩:=h2.Sd hp hy (sy.tag.trans ht) (by show Hi 18+Hi 19<_;omega);refine .inr ⟨(nm x.b.name,x.b.typ),x.d,x.b.FB,m3,S3,r3,L3,⟨_,x,hx,ht,rfl,rfl,rfl,rfl⟩,?_,h3,by omega,t1,t2,t3.trans q16,t4.trans q20,by rw[t5];show Hi 18+Hi 19+1=_;omega,λk hk=> ?_,λk' d' e'=> ?_⟩
  ·have ex:(l.getD (cB l) (0,false)).2=bM (S.root 16) x.b.FB:=by
    have e4:r[cB l]? =some (r.getD (cB l) 0):=by
     rw[List.getD_eq_getElem?_getD,Fl (by omega),Option.getD_some]
    have e5:exO S.ob (r.getD (cB l) 0)=x.b.FB:=by unfold exO;rw[hx]
    rw[List.getD_eq_getElem?_getD];have e6:l[cB l]? =some (usO S.ob (r.getD (cB l) 0),bM (S.root 16) (exO S.ob (r.getD (cB l) 0))):=by
     conv=>lhs;rw[hl]
     rw[List.getElem?_map,<-hl,e4];rfl
    rw[e6,Option.getD_some,e5]
   unfold jI;rw[eg,Fj,es,Fj,if_neg (by omega),e1,Fj,e2,Fj,e3,Fj,ex,sy.name,sy.typ]
  ·refine(Ij.es s1).ns nm k ?_;obtain⟨b,z,hz,tz,e⟩:=hE.ns nm k hk;exact⟨b,z,(aY hz).2,tz,e⟩
  ·have k1:=hE.less h2.n hy (sy.tag.trans ht) k' d' e';have k2:=(Ij.es s1).en nm k' d' e';rw[k1,k2,sy.name,sy.typ]
end Go.FC
namespace Go.FC
open Go.FP Go.Fy Go.Fz
theorem qu(f g:Nat->Nat):∀n,bd (λt=>f t+g t) n=bd f n+bd g n
 |0=>rfl
 |n+1=>by rw[bd,bd,bd,qu f g n];omega
theorem yN{f g:Nat->Nat}:∀n,(∀t,t<n->f t<=g t)->bd f n<=bd g n
 |0,_=>Fm _
 |n+1,h=>by
  rw[bd,bd];have:=yN n λt ht=>h t (by omega);have:=h n (by omega);omega
theorem LA:∀n,bd (λ_=>0) n=0
 |0=>rfl
 |n+1=>by rw[bd,LA n]
theorem vT(q v:Nat):∀n,bd (λt=>if q=t then v else 0) n<=v
 |0=>Nat.zero_le _
 |n+1=>by
  rw[bd];by_cases c:q=n
  ·rw[if_pos c,gd (g:=λ_=>0) n λt ht=>if_neg (by omega),LA];omega
  ·rw[if_neg c];exact vT q v n
theorem yO(w q:Nat->Nat)(n:Nat):∀l:List Nat,bd (λt=>((l.filter λa=>decide (q a=t)).map w).sum) n<=(l.map w).sum
 | []=>by
  have:bd (λt=>((([]:List Nat).filter λa=>decide (q a=t)).map w).sum) n=bd (λ_=>0) n:=rfl;rw[this,LA];exact Nat.zero_le _
 |a::l=>by
  have e:∀t,(((a::l).filter λa=>decide (q a=t)).map w).sum=(if q a=t then w a else 0)+((l.filter λa=>decide (q a=t)).map w).sum:=λt=>by
   rw[List.filter_cons];by_cases c:q a=t
   ·rw[if_pos (decide_eq_true c),if_pos c,List.map_cons,List.sum_cons]
   ·rw[if_neg (by simp[c]),if_neg c,Nat.zero_add]
  rw[gd n λt _=>e t,qu,List.map_cons,List.sum_cons];have:=yO w q n l;have:=vT (q a) (w a) n;omega
theorem C9{w:Nat->Nat}{v:Nat}:∀l:List Nat,(∀a∈l,w a=v)->(l.map w).sum=l.length*v
 | [],_=>by simp
 |a::l,h=>by rw[List.map_cons,List.sum_cons,C9 l λb hb=>h b (by simp[hb]),h a (by simp),List.length_cons,Nat.succ_mul];omega
theorem tI{w:Nat->Nat}:∀(l l':List Nat),l.Nodup->(∀a∈l,a∈l')->(l.map w).sum<=(l'.map w).sum
 | [],_,_,_=>Nat.zero_le _
 |a::l,l',hd,h=>by
  obtain⟨h1,h2⟩:=List.nodup_cons.1 hd;have hp:=List.perm_cons_erase (h a (by simp));have:=tI (w:=w) l (l'.erase a) h2 λb hb=>by
   rcases List.mem_cons.1 (hp.mem_iff.1 (h b (by simp[hb])))with e|e
   ·exact absurd (e▸hb) h1
   ·exact e
  rw[(hp.map w).sum_nat,List.map_cons,List.map_cons,List.sum_cons,List.sum_cons];omega
def qK(ob:Nat->Option Ob):Nat->Nat->List Nat
 |0,_=> []
 |k+1,a=>if a=0 then []else a::qK ob k (IF ob a)
def YB(ob:Nat->Option Ob)(a:Nat):Nat:=match ob a with
 |some x=>x.d.length+1
 |none=>0
variable{S:Fw}{m:Mm}{nm:Nat->List (List UInt8)}{r L ps:List Nat}
theorem yP{ob:Nat->Option Ob}(n:Hu ob nm):∀(k a:Nat),Jk ob a->((qK ob k a).map (YB ob)).sum+1<=FQ (nm a)
 |0,a,h=>by
  show 0+1<=_;cases nm a with
  |nil=>exact Fm _
  |cons s r=>rw[FQ];omega
 |k+1,a,h=>by
  rw[qK];rcases h with rfl|⟨x,hx,ht⟩
  ·rw[if_pos rfl,n.z];exact Fm _
  ·by_cases c:a=0
   ·rw[c]at hx;rw[n.o0]at hx;cases hx
   ·have:=yP n k x.b.name (n.Jt a x hx);rw[if_neg c,List.map_cons,List.sum_cons,(n.node a x hx ht).1,FQ,cg hx];unfold YB at this⊢;rw[hx];dsimp only;omega
theorem Da{ob:Nat->Option Ob}(n:Hu ob nm){c:Nat}:∀(k a:Nat),Jk ob a->(nm a).length<k->c∈qK ob k a->IF ob c≠0->IF ob c∈qK ob k a
 |0,a,_,h,_,_=>absurd h (by omega)
 |k+1,a,h,hk,hc,h0=>by
  rw[qK]at hc⊢;rcases h with rfl|⟨x,hx,ht⟩
  ·rw[if_pos rfl]at hc;cases hc
  ·by_cases e0:a=0
   ·rw[if_pos e0]at hc;cases hc
   ·rw[if_neg e0]at hc⊢;have e:=(n.node a x hx ht).1;rw[e,List.length_cons]at hk;have en:IF ob a=x.b.name:=cg hx;rcases List.mem_cons.1 hc with rfl|hc
    ·refine List.mem_cons_of_mem _ ?_;cases k with
     |zero=>omega
     |succ k=>rw[qK,if_neg h0];simp
    ·rw[en]at hc⊢;exact List.mem_cons_of_mem _ (Da n k x.b.name (n.Jt a x hx) (by omega) hc h0)
theorem W.anc{p:Nat}(h:W S m nm [] L [p] 0):∀(k b:Nat),b∈L->(nm b).length+k=128->b∈qK S.ob 200 p
 |0,b,hb,hk=>by
  obtain⟨x,hx⟩:=(h.mem b).1 hb;have ht:x.b.tag=2:=by
   obtain⟨_,_,_,_,_,F4⟩:=h.g.wf.ob b x hx;rcases F4.tag with t|t
   ·have:=h.JZ hx t;cases this
   ·exact t
  have:=h.n.Xp (.inr ⟨x,hx,ht⟩);omega
 |k+1,b,hb,hk=>by
  have P8:∀c x,S.ob c=some x->x.b.tag=2:=λc x hx=>by
   obtain⟨_,_,_,_,_,F4⟩:=h.g.wf.ob c x hx;rcases F4.tag with t|t
   ·have:=h.JZ hx t;cases this
   ·exact t
  obtain⟨x,hx⟩:=(h.mem b).1 hb;obtain⟨r1,r2⟩:=h.rf b x hx (P8 b x hx);have hm:b∈L.map (IF S.ob)++ [p]:=List.count_pos_iff.1 (by omega);have Ho:=h.n.Xp (h.pn p (by simp));rcases List.mem_append.1 hm with q|q
  ·obtain⟨c,hc,e⟩:=List.mem_map.1 q;obtain⟨y,hy⟩:=(h.mem c).1 hc;have e2:=(h.n.node c y hy (P8 c y hy)).1;rw[cg hy]at e;have:=W.anc h k c hc (by rw[e2,e,List.length_cons];omega);have:=Da h.n 200 p (h.pn p (by simp)) (by omega) this (by rw[cg hy,e];exact(h.g.FV hx).1)
   rwa [cg hy,e]at this
  ·have q:b=p:=by simpa using q
   rw[q,qK,if_neg (by rw[<-q];exact(h.g.FV hx).1)];simp
def wC(c:Nat):Nat:=if c=1 then 2 else if c=2 then 18 else if c=3 then 34 else if c=4 then 50 else 300
def lvS(S:Fw)(k:Nat):Nat:=bd (λt=>if(S.sl t).Ft=k then ai k-(S.sl t).free.length else 0) S.Fq
def P9(S:Fw)(k:Nat):Nat:=bd (λt=>if(S.sl t).Ft=k then 1 else 0) S.Fq
theorem Fc(g:G S m){k:Nat}:lvS S k+rmS S k=P9 S k*ai k:=by
 unfold lvS rmS P9;rw[<-qu];have key:∀n,n<=S.Fq->bd (λt=>(if(S.sl t).Ft=k then ai k-(S.sl t).free.length else 0)+if(S.sl t).Ft=k then(S.sl t).free.length else 0) n=bd (λt=>if(S.sl t).Ft=k then 1 else 0) n*ai k:=λn=>by
  induction n with
  |zero=>intro _;simp[bd]
  |succ n ih=>
   intro hn;rw[bd,bd,ih (by omega)];by_cases c:(S.sl n).Ft=k
   ·rw[if_pos c,if_pos c,if_pos c,Nat.succ_mul];obtain⟨x,_,_,e⟩:=g.head (s:=n) (by omega);rw[c]at e;omega
   ·rw[if_neg c,if_neg c,if_neg c];rfl
 exact key S.Fq (Fm _)
theorem W.weigh(h:W S m nm r L ps 0)(w:Nat->Nat):bd (λt=>(ai (S.sl t).Ft-(S.sl t).free.length)*w (S.sl t).Ft) S.Fq<=(L.map λa=>match S.ob a with|some x=>w x.b.Ft|none=>0).sum:=by
 refine Nat.le_trans (yN S.Fq λt ht=> ?_) (yO (λa=>match S.ob a with|some x=>w x.b.Ft|none=>0) (λa=>(a-S.base)/1024) S.Fq L);obtain⟨l,_,hnd,hl⟩:=h.g.Mr ht;have h9:=h.g.c9 ht;have hsub:∀a∈l,a∈L.filter λa=>decide ((a-S.base)/1024=t):=λa ha=>by
  obtain⟨i,q1,q2⟩:=(hl a).1 ha;obtain⟨x,hx⟩:=h.full a t i q1 q2 (h.g.JO q1).1;refine List.mem_filter.2 ⟨(h.mem a).2 ⟨x,hx⟩,decide_eq_true ?_⟩;have k1:=q1.R4 h9;have k2:=Nq _ (q1.c h9) h9;unfold Fw.sa at k1;obtain⟨z,hz⟩:=Fp (ae (S.sl t).Ft);rw[<-hz]at k1 k2;omega
 have GI:∀a∈l,(match S.ob a with|some x=>w x.b.Ft|none=>0)=w (S.sl t).Ft:=λa ha=>by
  obtain⟨i,q1,q2⟩:=(hl a).1 ha;obtain⟨x,hx⟩:=h.full a t i q1 q2 (h.g.JO q1).1;rw[hx];exact congrArg w (h.g.PY hx q1).2.1
 have hs:=tI (w:=λa=>match S.ob a with|some x=>w x.b.Ft|none=>0) l _ hnd hsub;rw[C9 l GI]at hs;refine Nat.le_trans (Nat.mul_le_mul_right _ ?_) hs;by_cases c0:(S.sl t).Ft=0
 ·rw[c0,Lv.2];omega
 have:(S.blocks t (S.sl t).Ft).length<=(l++(S.sl t).free).length:=by
  refine dL (λj=>(l++(S.sl t).free).getD j 0) _ _ (ic (by have:=Nq (S.sl t).Ft (by omega) h9;omega) _ _) λb hb=> ?_;obtain⟨j,_,j2,ej⟩:=(iO _ _ _).1 hb;have Nt:S.At b t j:=⟨ht,by omega,ej⟩;have hm:b∈l++(S.sl t).free:=by
   by_cases q:b∈(S.sl t).free
   ·exact List.mem_append_right _ q
   ·exact List.mem_append_left _ ((hl b).2 ⟨j,Nt,q⟩)
  obtain⟨n,hn,en⟩:=List.getElem_of_mem hm;exact⟨n,hn,by rw[<-en];exact(List.getElem_eq_getD (h:=hn) 0)⟩
 have k5:(S.blocks t (S.sl t).Ft).length=ai (S.sl t).Ft:=lF _ _ _ _;rw[k5,List.length_append]at this;omega
theorem W.room{p:Nat}(h:W S m nm [] L [p] 0)(h0:∀s,s<S.Fq->(S.sl s).Ft≠0)(Jy:∀s,s<S.Fq->(S.sl s).Ft≠0->TG S s (S.sl s).Ft+(S.sl s).free.length<ai (S.sl s).Ft):False:=by
 have hp:=h.pn p (by simp);have hcfg:=h.g.NL;have P8:∀c x,S.ob c=some x->x.b.tag=2:=λc x hx=>by
  obtain⟨_,_,_,_,_,F4⟩:=h.g.wf.ob c x hx;rcases F4.tag with t|t
  ·have:=h.JZ hx t;cases this
  ·exact t
 have hle:(L.map (YB S.ob)).sum<=254:=by
  have k1:=tI (w:=YB S.ob) L (qK S.ob 200 p) h.nd λb hb=>by
   obtain⟨x,hx⟩:=(h.mem b).1 hb;have:=h.n.Xp (.inr ⟨x,hx,P8 b x hx⟩);exact h.anc (128-(nm b).length) b hb (by omega)
  have k2:=yP h.n 200 p hp;have k3:=bQ (h.n.check hp);omega
 have hw:(L.map λa=>match S.ob a with|some x=>wC x.b.Ft|none=>0).sum<=(L.map (YB S.ob)).sum:=by
  have key:∀l:List Nat,(∀a∈l,a∈L)->(l.map λa=>match S.ob a with|some x=>wC x.b.Ft|none=>0).sum<=(l.map (YB S.ob)).sum:=λl=>by
   induction l with
   |nil=>intro _;exact Fm _
   |cons a l ih=>
    intro hl;have:=ih λb hb=>hl b (by simp[hb]);rw[List.map_cons,List.map_cons,List.sum_cons,List.sum_cons];obtain⟨x,hx⟩:=(h.mem a).1 (hl a (by simp));have k1:=h.nc a x hx (P8 a x hx);obtain⟨_,_,_,_,_,F4⟩:=h.g.wf.ob a x hx;have k2:=F4.len;rw[if_neg (by rw[P8 a x hx];decide)]at k2;have k3:=dy F4.right;rw[if_neg (by rw[P8 a x hx];decide),if_neg (by rw[P8 a x hx];decide)]at k3;have k4:=JJ x.d.length (by omega) (by omega);rw[<-k1]at k4;have k5:wC x.b.Ft<=x.d.length+1:=by
     unfold wC;rcases k4.2.2.2.2 with e|⟨e1,e|⟨e2,e|e3⟩⟩
     ·rw[if_pos e];omega
     ·rw[e];simp;omega
     ·rw[e];simp;omega
     ·by_cases q1:x.b.Ft=1
      ·rw[if_pos q1];omega
      ·rw[if_neg q1];by_cases q2:x.b.Ft=2
       ·rw[if_pos q2];omega
       ·rw[if_neg q2];by_cases q3:x.b.Ft=3
        ·rw[if_pos q3];omega
        ·rw[if_neg q3,if_pos (by omega)];omega
    have e1:(match S.ob a with|some x=>wC x.b.Ft|none=>0)=wC x.b.Ft:=by rw[hx]
    have e2:YB S.ob a=x.d.length+1:=by unfold YB;rw[hx]
    rw[e1,e2];omega
  exact key L λ_ h=>h
 have hweigh:=h.weigh wC;have split:∀n,n<=S.Fq->bd (λt=>if(S.sl t).Ft=1 then ai 1-(S.sl t).free.length else 0) n*2+bd (λt=>if(S.sl t).Ft=2 then ai 2-(S.sl t).free.length else 0) n*18+bd (λt=>if(S.sl t).Ft=3 then ai 3-(S.sl t).free.length else 0) n*34
   +bd (λt=>if(S.sl t).Ft=4 then ai 4-(S.sl t).free.length else 0) n*50+300*n<=bd (λt=>(ai (S.sl t).Ft-(S.sl t).free.length)*wC (S.sl t).Ft) n
   +300*(bd (λt=>if(S.sl t).Ft=1 then 1 else 0) n+bd (λt=>if(S.sl t).Ft=2 then 1 else 0) n+bd (λt=>if(S.sl t).Ft=3 then 1 else 0) n+bd (λt=>if(S.sl t).Ft=4 then 1 else 0) n):=λn=>by
  induction n with
  |zero=>intro _;simp[bd]
  |succ n ih=>
   intro hn;have ih:=ih (by omega);simp only [bd];have hc:=h0 n (by omega);have FR:=h.g.wf.lt n (by omega) hc;obtain⟨c,MO⟩:=Fp ((S.sl n).Ft);rw[<-MO]at FR hc⊢;by_cases q1:c=1
   ·subst q1;rw[show wC 1=2 from rfl];simp;omega
   ·by_cases q2:c=2
    ·subst q2;rw[show wC 2=18 from rfl];simp;omega
    ·by_cases q3:c=3
     ·subst q3;rw[show wC 3=34 from rfl];simp;omega
     ·by_cases q4:c=4
      ·subst q4;rw[show wC 4=50 from rfl];simp;omega
      ·have:wC c=300:=by unfold wC;rw[if_neg q1,if_neg q2,if_neg q3,if_neg q4]
       rw[this,if_neg q1,if_neg q2,if_neg q3,if_neg q4,if_neg q1,if_neg q2,if_neg q3,if_neg q4];have:1<=ai c-(S.sl n).free.length:=by omega
       omega
 have Ki:=split S.Fq (Fm _);have split2:∀n,bd (λt=>if(S.sl t).Ft=1 then 1 else 0) n+bd (λt=>if(S.sl t).Ft=2 then 1 else 0) n+bd (λt=>if(S.sl t).Ft=3 then 1 else 0) n+bd (λt=>if(S.sl t).Ft=4 then 1 else 0) n<=n:=λn=>by
  induction n with
  |zero=>simp[bd]
  |succ n ih=>
   simp only [bd];obtain⟨c,MO⟩:=Fp ((S.sl n).Ft);rw[<-MO];by_cases q1:c=1
   ·subst q1;simp;omega
   ·by_cases q2:c=2
    ·subst q2;simp;omega
    ·by_cases q3:c=3
     ·subst q3;simp;omega
     ·rw[if_neg q1,if_neg q2,if_neg q3];split<;>omega
 have IU:P9 S 1+P9 S 2+P9 S 3+P9 S 4<=S.Fq:=split2 S.Fq;have cl:∀k,1<=k->P9 S k≠0->P9 S k*ai k<lvS S k+ai k:=λk hk ht=>by
  obtain⟨t,OC,Xg⟩:=qp S.Fq (show 0<bd (λt=>if(S.sl t).Ft=k then 1 else 0) S.Fq by unfold P9 at ht;omega);have JA:(S.sl t).Ft=k:=by
   by_cases c:(S.sl t).Ft=k
   ·exact c
   ·rw[if_neg c]at Xg;omega
  have k1:=Jy t OC (by omega);rw[JA]at k1;have k2:=vR (S:=S) OC JA;have k3:=Fc h.g (k:=k);omega
 have c1:=cl 1 (by decide);have c2:=cl 2 (by decide);have c3:=cl 3 (by decide);have c4:=cl 4 (by decide);rw[show ai 1=32 from rfl]at c1;rw[show ai 2=21 from rfl]at c2;rw[show ai 3=16 from rfl]at c3;rw[show ai 4=10 from rfl]at c4;have hsp2:lvS S 1*2+lvS S 2*18+lvS S 3*34+lvS S 4*50+300*S.Fq<=254+300*(P9 S 1+P9 S 2+P9 S 3+P9 S 4):=Nat.le_trans Ki (Nat.add_le_add_right (Nat.le_trans hweigh (Nat.le_trans hw hle)) _);obtain⟨a1,Uq⟩:=Fp (P9 S 1);obtain⟨a2,Ts⟩:=Fp (P9 S 2);obtain⟨a3,SG⟩:=Fp (P9 S 3);obtain⟨a4,I7⟩:=Fp (P9 S 4);rw[<-Uq]at c1;rw[<-Ts]at c2;rw[<-SG]at c3;rw[<-I7]at c4;rw[<-Uq,<-Ts,<-SG,<-I7]at hsp2 IU;have IX:7<=S.Fq:=hcfg.2.2.1;have b2:a2<=1:=by by_cases q:a2=0;omega;have:=c2 q;omega
 have b3:a3<=1:=by by_cases q:a3=0;omega;have:=c3 q;omega
 have b4:a4<=1:=by by_cases q:a4=0;omega;have:=c4 q;omega
 have b1:4<=a1:=by omega
 have:=c1 (by omega);by_cases q2:a2=0
 ·omega
 ·by_cases q3:a3=0
  ·omega
  ·by_cases q4:a4=0
   ·omega
   ·have:=c2 q2;have:=c3 q3;have:=c4 q4;omega
end Go.FC
namespace Go.FC
open Go.FP Go.Fy Go.Fz
abbrev Es:=Ky->List UInt8->Nat->Prop
inductive gO(now:Nat):Es->List Ky->Es->Prop
 |nil {E E':Es} (h:∀k d e,E k d e↔E' k d e):gO now E [] E'
 |over {E E1 E':Es} {l:List Ky} (k:Ky) (d:List UInt8) (e:Nat) (h:E k d e) (ho:bM now e=true) (h1:∀k' d' e',E1 k' d' e'↔E k' d' e'/\k'≠k) (t:gO now E1 l E'):gO now E l E'
 |gone {E E1 E':Es} {l:List Ky} (k:Ky) (d:List UInt8) (e:Nat) (h:E k d e) (ho:bM now e=false) (h1:∀k' d' e',E1 k' d' e'↔E k' d' e'/\k'≠k) (t:gO now E1 l E'):gO now E (k::l) E'
theorem gO.left{now:Nat}{E0 E E':Es}{l:List Ky}(h:gO now E l E')(h0:∀k d e,E0 k d e↔E k d e):gO now E0 l E':=by
 cases h with
 |nil h=>exact .nil λk d e=>(h0 k d e).trans (h k d e)
 |over k d e h ho h1 t=>exact .over k d e ((h0 k d e).2 h) ho (λk' d' e'=>(h1 k' d' e').trans (and_congr_left λ_=>(h0 k' d' e').symm)) t
 |gone k d e h ho h1 t=>exact .gone k d e ((h0 k d e).2 h) ho (λk' d' e'=>(h1 k' d' e').trans (and_congr_left λ_=>(h0 k' d' e').symm)) t
theorem gO.trans{now:Nat}{E E' E'':Es}{l l':List Ky}(h:gO now E l E')(h2:gO now E' l' E''):gO now E (l++l') E'':=by
 induction h with
 |nil h=>exact h2.left h
 |over k d e h ho h1 t ih=>exact .over k d e h ho h1 (ih h2)
 |gone k d e h ho h1 t ih=>exact .gone k d e h ho h1 (ih h2)
theorem gO.sub{now:Nat}{E E':Es}{l:List Ky}(h:gO now E l E'):∀k d e,E' k d e->E k d e:=by
 induction h with
 |nil h=>exact λk d e=>(h k d e).2
 |over k d e h ho h1 t ih=>exact λk' d' e' q=>((h1 k' d' e').1 (ih k' d' e' q)).1
 |gone k d e h ho h1 t ih=>exact λk' d' e' q=>((h1 k' d' e').1 (ih k' d' e' q)).1
variable{S:Fw}{m:Mm}{nm:Nat->List (List UInt8)}{r L ps:List Nat}
structure Hol(S:Fw)(c b:Nat):Prop where
 ex:∃s i,S.At b s i/\b∉(S.sl s).free/\(S.sl s).Ft=c
 no:S.ob b=none
theorem W.Qa(h:W S m nm r L ps 0){c:Nat}(h1:1<=c)(h9:c<=9):
  (S.fst 0=0/\dd c m=some ((0,5),m))\/∃b S' m',dd c m=some ((b,0),m')/\W S' m' nm r L ps b/\Hol S' c b/\S'.ob=S.ob/\S'.root=S.root/\S'.Fq=S.Fq/\S'.slots=S.slots:=by
 have g:=h.g;cases e:S.fst c with
 |succ s=>
  obtain⟨b,l,m',i,k1,k2,k3,k4,k5,k6⟩:=g.JN h1 h9 e;refine .inr ⟨b,_,m',k3,h.took k4 rfl rfl rfl rfl rfl λa u i ha hf hne=>⟨i,mB k1 ha hf hne⟩,⟨⟨s,i,GR.2 k6,?_,(S.Gr s s l).trans k2⟩,k5⟩,rfl,rfl,rfl,rfl⟩;have:=g.wf.nodup s k6.1;rw[k1]at this;rw[S.FX];exact(List.nodup_cons.1 this).1
 |zero=>
  cases e0:S.fst 0 with
  |zero=>exact .inl ⟨rfl,g.Lw h1 h9 e e0⟩
  |succ s=>
   obtain⟨m',k1,k2,k3,k4,k5,k6,k7⟩:=g.MW h1 h9 e e0;refine .inr ⟨_,_,m',k3,h.took k4 rfl rfl rfl rfl rfl λa u i ha hf hne=>⟨i,?_⟩,⟨⟨s,0,k6,by rw[S.Gm];exact k7,by rw[S.Gm]⟩,k5⟩,rfl,rfl,rfl,rfl⟩;by_cases q:u=s
   ·subst q;rw[S.Gm]at hf;exfalso;have hb:a∈S.blocks u c:=by
     obtain⟨q1,q2,q3⟩:=ha;rw[S.Gm]at q2;unfold Fw.ba at q3;rw[S.Gm]at q3;exact(iO _ _ _).2 ⟨i,Nat.zero_le _,by simpa using q2,q3⟩
    obtain⟨n,hn⟩:∃n,ai c=n+1:=⟨ai c-1,by have:=Nq c h1 h9;omega⟩;unfold Fw.blocks at hb hf;rw[hn,bL,Nat.zero_mul,Nat.add_zero]at hb hf;rcases List.mem_cons.1 hb with q|q
    ·exact hne q
    ·exact hf q
   ·rw[S.Gb c _ q]at hf;exact⟨(qi q).1 ha,hf⟩
theorem sw{S:Fw}(ho:∀s,S.out s=false)(h:S.fst 0=0):∀s,s<S.Fq->(S.sl s).Ft≠0:=λs hs e=>by
 refine vJ h s hs ?_;unfold Fw.GY;rw[if_neg (by rw[ho s];decide),if_pos e]
structure EO(S:Fw)(nm:Nat->List (List UInt8))(r:List Nat)(p c:Nat)(g:Gt)(g':Gt)(m':Mm)(S':Fw)(Ja:Nat->List (List UInt8))(r' L':List Nat)(q:List (Nat×Nat))(l:List Ky):Prop where
 w:W S' m' Ja r' L' [bj q p] g'.at_
 hol:Hol S' c g'.at_
 F2:g'.F2=g.F2++q
 gone:g'.gone=g.gone++l
 went:gO (S.root 16) (En S.ob nm) l (En S'.ob Ja)
 YA:S'.root 16=S.root 16
 name:Ja (bj q p)=nm p
 ns:∀k,Ns S'.ob Ja k->Ns S.ob nm k
 Fq:S'.Fq=S.Fq
 slots:S'.slots=S.slots
 cnt:S'.root 18+S'.root 19+r'.length=S.root 18+S.root 19+r.length
 mv:S'.root 20<=S.root 20+32
theorem vU{p c:Nat}(h1:1<=c)(h9:c<=9):∀(k:Nat) (g:Gt) (S:Fw) (m:Mm) (r L:List Nat),W S m nm r L [p] 0->r.length+2<=k->S.root 18+S.root 19+r.length<4000000000->S.root 20<=4000000000->
  ∃g' m' S' Ja r' L' q l,cM c k g m=some ((g',0),m')/\EO S nm r p c g g' m' S' Ja r' L' q l
 |0,_,_,_,_,_,_,hk,_,_=>absurd hk (by omega)
 |k+1,g,S,m,r,L,h,hk,hb,NE=>by
  rw[cM];rcases h.Qa h1 h9 with⟨f0,e1⟩|⟨b,S1,m1,e1,hW,hh,k1,k2,k3,k4⟩
  ·rw[e1,Fj,if_neg (λk=>k rfl)];rcases h.Vn (by simp) (by omega)with⟨hr,e2⟩|⟨ky,d,e,m2,S2,r2,L2,LY,e2,QC,hl,q1,q2,q3,q4,q5,hN,hE⟩
   ·subst hr;rw[e2,Fj];rcases h.Sc NE with⟨_,Jy⟩|⟨q,m3,S3,YC,r3,L3,e3,hW3,hz,O2,t1,t2,t3,t4,t5,hN3,hE3⟩
    ·exact absurd (h.room (sw h.out f0) Jy) (λk=>k)
    ·show∃g' m' S' Ja r' L' q l,((gV m).bind _)=_/\_;rw[e3,Fj];cases k with
     |zero=>omega
     |succ k=>
      show∃g' m' S' Ja r' L' q' l,cM c (k+1) {g with F2:=g.F2++q} m3=_/\_;rw[cM];rcases hW3.Qa h1 h9 with⟨f3,_⟩|⟨b,S4,m4,e4,hW4,hh,k1,k2,k3,k4⟩
      ·obtain⟨s,hs,hc⟩:=hz;exact absurd hc (sw hW3.out f3 s (by rw[t1];exact hs))
      ·rw[e4,Fj,if_pos (by decide:((0:Nat)≠5))];refine⟨_,m4,S4,YC,r3,L3,q,[],rfl,hW4,hh,rfl,(List.append_nil _).symm,.nil λk d e=> ?_,?_,t5 p (by simp),λk hk=>hN3 k (by rw[k1]at hk;exact hk),k3.trans t1,k4.trans t2,?_,by rw[k2];exact t4⟩
       ·rw[k1];exact hE3 k d e
       ·rw[k2];exact t3 16 (.inl rfl)
       ·rw[k2,t3 18 (.inr (.inl rfl)),t3 19 (.inr (.inr rfl)),O2]
   ·rw[e2,Fj];show∃g' m' S' Ja r' L' q l,cM c k (if bM (S.root 16) e=true then {g with over:=g.over+1}else {g with gone:=g.gone++ [ky]}) m2=_/\_;obtain⟨g',m',S',Ja,r',L',q,l,e3,R⟩:=vU h1 h9 k (if bM (S.root 16) e=true then {g with over:=g.over+1}else {g with gone:=g.gone++ [ky]}) S2 m2 r2 L2 QC (by omega) (by omega) (by omega);have hw:=R.went;rw[q3]at hw;have cn:=R.cnt;have mv:=R.mv;have pr:=R.F2;have gn:=R.gone;by_cases o:bM (S.root 16) e=true
    ·rw[if_pos o]at e3 pr gn⊢;exact⟨g',m',S',Ja,r',L',q,l,e3,R.w,R.hol,pr,gn,.over ky d e LY o hE hw,R.YA.trans q3,R.name,λk hk=>hN k (R.ns k hk),R.Fq.trans q1,R.slots.trans q2,by omega,by omega⟩
    ·rw[if_neg o]at e3 pr gn⊢;exact⟨g',m',S',Ja,r',L',q,ky::l,e3,R.w,R.hol,pr,by rw[gn];simp,.gone ky d e LY (by simpa using o) hE hw,R.YA.trans q3,R.name,λk hk=>hN k (R.ns k hk),R.Fq.trans q1,R.slots.trans q2,by omega,by omega⟩
  ·rw[e1,Fj,if_pos (by decide:((0:Nat)≠5))];exact⟨_,m1,S1,nm,r,L,[],[],rfl,hW,hh,(List.append_nil _).symm,(List.append_nil _).symm,.nil λk d e=>by rw[k1],by rw[k2],rfl,λk hk=>by rw[k1]at hk;exact hk,k3,k4,by rw[k2],by rw[k2];omega⟩
theorem yQ{p:Pw}{c:Nat}(h:W S m nm r L [p.GB] 0)(h1:1<=c)(h9:c<=9)(hb:S.root 18+S.root 19+r.length<4000000000)(NE:S.root 20<=4000000000):
  ∃b GB l m' S' Ja r' L',pJ c p m=some ((b,0,⟨GB,p.gone++l⟩),m')/\W S' m' Ja r' L' [GB] b/\Hol S' c b/\gO (S.root 16) (En S.ob nm) l (En S'.ob Ja)/\Ja GB=nm p.GB/\(∀k,Ns S'.ob Ja k->Ns S.ob nm k)/\S'.root 16=S.root 16/\S'.Fq=S.Fq/\S'.slots=S.slots/\
   S'.root 18+S'.root 19+r'.length=S.root 18+S.root 19+r.length/\S'.root 20<=S.root 20+32:=by
 have G5:=h.g.NL;have hr:=W.R8 h.g h.rg.nd λa ha=>by
  obtain⟨x,hx,_⟩:=h.rg.obj ha;exact h.at_ ((h.mem a).2 ⟨x,hx⟩)
 obtain⟨g',m',S',Ja,r',L',q,l,e,R⟩:=vU h1 h9 (m.slots+m.Fq+2) {} S m r L h (by omega) hb NE;refine⟨g'.at_,bj q p.GB,l,m',S',Ja,r',L',?_,R.w,R.hol,R.went,R.name,R.ns,R.YA,R.Fq,R.slots,R.cnt,R.mv⟩;unfold pJ mn;rw[e,Fj];dsimp only;rw[R.F2,R.gone];rfl
end Go.FC
namespace Go.FC
open Go.FP Go.Fy Go.Fz
theorem En.Fv{ob:Nat->Option Ob}{nm:Nat->List (List UInt8)}(n:Hu ob nm){a:Nat}(ha:ob a=none)(G6:a≠0)(v:List (List UInt8))(k:Ky)(d:List UInt8)(e:Nat):En ob nm k d e↔En ob (Fv nm a v) k d e:=by
 constructor
 ·rintro⟨b,x,hx,ht,h1,h2,h3,h4⟩;exact⟨b,x,hx,ht,by rw[af _ _ (n.Hx (n.Jt b x hx) ha G6)];exact h1,h2,h3,h4⟩
 ·rintro⟨b,x,hx,ht,h1,h2,h3,h4⟩;rw[af _ _ (n.Hx (n.Jt b x hx) ha G6)]at h1;exact⟨b,x,hx,ht,h1,h2,h3,h4⟩
theorem En.addE{ob:Nat->Option Ob}{nm:Nat->List (List UInt8)}{a:Nat}{y:Ob}(ha:ob a=none)(ht:y.b.tag=1)(k:Ky)(d:List UInt8)(e:Nat):
  En (FC.Fv ob a (some y)) nm k d e↔En ob nm k d e\/k=(nm y.b.name,y.b.typ)/\d=y.d/\e=y.b.FB:=by
 constructor
 ·rintro⟨b,x,hx,GQ,h1,h2,h3,h4⟩;by_cases q:b=a
  ·subst q;rw[ak]at hx;cases hx;exact .inr ⟨Prod.ext h1.symm h2.symm,h3.symm,h4.symm⟩
  ·rw[af _ _ q]at hx;exact .inl ⟨b,x,hx,GQ,h1,h2,h3,h4⟩
 ·rintro(⟨b,x,hx,GQ,h⟩|⟨rfl,rfl,rfl⟩)
  ·exact⟨b,x,(af _ _ (λq=>by rw[q,ha]at hx;cases hx)).trans hx,GQ,h⟩
  ·exact⟨a,y,ak _ _ _,ht,rfl,rfl,rfl,rfl⟩
theorem xB{a b:List (List UInt8)}(h:aI (a++b)=0):aI b=0:=by
 refine Fz.yW (λs hs=>Fz.bH h s (by simp[hs])) ?_;have h1:=Kx a b;have h2:=Fz.bQ h;have h3:=Ir a;omega
variable{S:Fw}{m:Mm}{nm:Nat->List (List UInt8)}{r L ps:List Nat}{ho:Nat}
theorem Qb:∀(l:List (List UInt8)) (p:Pw) (S:Fw) (m:Mm) (nm:Nat->List (List UInt8)) (r L:List Nat),W S m nm r L [p.GB] 0->(∀x∈l,aG x=0)->aI (l.reverse.map FI++nm p.GB)=0->
  (∀x t,l=x::t->¬Ns S.ob nm (FI x::nm p.GB))->S.root 18+S.root 19+r.length<4000000000->S.root 20+32*l.length<=4000000000->
  ∃GB g m' S' Ja r' L',JL l p m=some ((0,⟨GB,p.gone++g⟩),m')/\W S' m' Ja r' L' [GB] 0/\Ja GB=l.reverse.map FI++nm p.GB/\gO (S.root 16) (En S.ob nm) g (En S'.ob Ja)/\S'.root 16=S.root 16/\S'.Fq=S.Fq/\S'.slots=S.slots/\
   S'.root 18+S'.root 19+r'.length=S.root 18+S.root 19+r.length/\S'.root 20<=S.root 20+32*l.length
 | [],p,S,m,nm,r,L,h,_,_,_,_,_=>⟨p.GB,[],m,S,nm,r,L,by rw[JL,List.append_nil],h,rfl,.nil λ_ _ _=>Iff.rfl,rfl,rfl,rfl,rfl,by omega⟩
 |x::t,p,S,m,nm,r,L,h,hl,hc,Jy,hb,NE=>by
  have hx:=hl x (by simp);obtain⟨l1,l63,_⟩:=fC hx;obtain⟨c1,c4,_⟩:=JJ x.length l1 l63;rw[List.length_cons]at NE;obtain⟨b,GB,g1,m1,S1,OW,r1,L1,e1,h1,hh,w1,NV,ns1,YA,t1,t2,cn,mv⟩:=yQ h c1 (by omega) hb (by omega);obtain⟨⟨s,i,GG,GF,GI⟩,Pe⟩:=hh;have KQ:aI (t.reverse.map FI++FI x::nm p.GB)=0:=by
   rw[List.reverse_cons,List.map_append]at hc;simpa using hc
  have hcs:aI (FI x::OW GB)=0:=by
   rw[NV];exact xB KQ
  have hno1:∀v y,S1.ob v=some y->y.b.tag=2->OW v≠FI x::OW GB:=λv y hy GL e=>Jy x t rfl (ns1 _ ⟨v,y,hy,GL,by rw[e,NV]⟩);obtain⟨m2,S2,L2,e2,h2,PP,hN2,NF⟩:=h1.Xq (ps:= []) (by simp) GG GF Pe GI hx hcs hno1;have G6:=(h1.g.JO GG).1;have FL:∀k d e,En S1.ob OW k d e↔En S2.ob (Fv OW b (FI x::OW GB)) k d e:=λk d e=>(En.Fv h1.n Pe G6 _ k d e).trans (PP.en _ k d e);have Xx:Fv OW b (FI x::OW GB) b=FI x::nm p.GB:=by rw[ak,NV]
  have q16:S2.root 16=S1.root 16:=NF.root 16 (by decide) (by decide);have q18:S2.root 18=S1.root 18:=NF.root 18 (by decide) (by decide);have q19:S2.root 19=S1.root 19:=NF.root 19 (by decide) (by decide);have q20:S2.root 20=S1.root 20:=NF.root 20 (by decide) (by decide);obtain⟨pin3,g3,m3,S3,YC,r3,L3,e3,h3,WE,w3,u16,u1,u2,cn3,mv3⟩:=Qb t ⟨b,p.gone++g1⟩ S2 m2 (Fv OW b (FI x::OW GB)) r1 L2 h2 (λy hy=>hl y (by simp[hy])) (by rw[Xx];exact KQ)
   (λy t' _=>by
    show¬Ns S2.ob _ (FI y::Fv OW b (FI x::OW GB) b);rw[Xx];rintro⟨v,z,hz,tz,ez⟩;rcases hN2 v z hz tz with k|⟨z1,G8,tz1⟩
    ·rw[k,Xx]at ez;have:=congrArg List.length ez;simp at this
    ·have hva:v≠b:=λk=>by rw[k,Pe]at G8;cases G8
     rw[af _ _ hva]at ez;have k1:=(h1.n.node v z1 G8 tz1).1;rw[ez]at k1;injection k1 with k2 k3;rcases h1.n.Jt v z1 G8 with k4|⟨z2,G7,tz2⟩
     ·rw[k4,h1.n.z]at k3;cases k3
     ·exact hno1 _ z2 G7 tz2 (by rw[<-k3,NV]))
   (by omega) (by omega)
  refine⟨pin3,g1++g3,m3,S3,YC,r3,L3,?_,h3,?_,w1.trans (w3.left ?_|>λw=>by rw[q16,YA]at w;exact w),by omega,by rw[u1,NF.Fq,t1],by rw[u2,NF.slots,t2],by omega,by rw[List.length_cons];omega⟩
  ·rw[JL,if_neg (λk=>k hx),e1,Fj];dsimp only;rw[if_neg (λk=>k rfl),e2,Fj,e3,List.append_assoc]
  ·rw[WE];show t.reverse.map FI++Fv OW b (FI x::OW GB) b=_;rw[Xx,List.reverse_cons,List.map_append,List.append_assoc];rfl
  ·exact FL
theorem Eh{typ en:Nat}{p:List UInt8}{w:Pw}(h:W S m nm r L [w.GB] 0)(hp:p.length<=480)(hu:(aP p).2=0)(ht:typ<65536)(he:en<18446744073709551616)(Jy:∀d e,¬En S.ob nm (nm w.GB,typ) d e)
  (hb:S.root 18+S.root 19+r.length<4000000000) (NE:S.root 20<=4000000000):
  ∃g m' S' Ja r' L' E2,CB typ en p w m=some ((0,⟨0,w.gone++g⟩),m')/\W S' m' Ja r' L' [] 0/\gO (S.root 16) (En S.ob nm) g E2/\(∀k d e,En S'.ob Ja k d e↔E2 k d e\/k=(nm w.GB,typ)/\d=p/\e=en)/\
   S'.root 16=S.root 16/\S'.Fq=S.Fq/\S'.slots=S.slots/\S'.root 18+S'.root 19+r'.length=S.root 18+S.root 19+r.length+1/\S'.root 20<=S.root 20+32:=by
 obtain⟨c1,c9,c0,cf⟩:=Og p.length hp;obtain⟨b,GB,g1,m1,S1,OW,r1,L1,e1,h1,hh,w1,NV,ns1,YA,t1,t2,cn,mv⟩:=yQ h c1 c9 hb NE;obtain⟨⟨s,i,GG,GF,GI⟩,Pe⟩:=hh;obtain⟨m2,S2,y,e2,h2,PP,NF,y1,y2,y3,y4,y5⟩:=h1.Vj (ps:= []) (typ:=typ) (en:=en) GG GF Pe GI hp hu ht he (λv x hx GQ k=>Jy x.d x.b.FB (w1.sub _ _ _ ⟨v,x,hx,GQ,by rw[k.1,NV],k.2,rfl,rfl⟩));have q16:S2.root 16=S1.root 16:=NF.root 16 (by decide) (by decide);have q18:S2.root 18=S1.root 18:=NF.root 18 (by decide) (by decide);have q19:S2.root 19=S1.root 19:=NF.root 19 (by decide) (by decide);have q20:S2.root 20=S1.root 20:=NF.root 20 (by decide) (by decide);refine⟨g1,m2,S2,OW,_,_,_,?_,h2,w1,λk d e=> ?_,by omega,by rw[NF.Fq,t1],by rw[NF.slots,t2],by rw[List.length_append,List.length_singleton];omega,by omega⟩
 ·unfold CB;rw[if_neg (λk=>k c0),e1,Fj];dsimp only;rw[if_neg (λk=>k rfl),e2,Fj]
 ·rw[<-PP.en OW k d e,En.addE Pe y1,y2,y3,y4,y5,NV]
namespace W
theorem pin_is(h:W S m nm r L [] 0){ls:List (List UInt8)}(hl:aI ls=0):∃a k m' ob',tS ls m=some ((a,k),m')/\W {S with ob:=ob'} m' nm r L [a] 0/\Ij S.ob ob'/\Hu.Kn S.ob nm ls (a,k):=by
 obtain⟨⟨a,k⟩,e,hk⟩:=h.n.P2 h.g h.hs hl;unfold tS;rw[if_neg (λk=>k hl),e,Fj];rcases hk.1 with k0|⟨x,hx,ht⟩
 ·have k0:a=0:=k0;subst k0;exact⟨0,k,m,S.ob,by rw[if_neg (λk=>k rfl),Fj],h.ps1,Ij.refl _,hk⟩
 ·obtain⟨m',ob',e2,h2,s2⟩:=h.hold (by simp) hx ht;exact⟨a,k,m',ob',by rw[if_pos (h.g.FV hx).1,e2,Fj],h2,s2,hk⟩
theorem Qc(h:W S m nm r L ps ho)(hp:ps.length<900){a:Nat}{x:Ob}(hx:S.ob a=some x)(ht:x.b.tag=1)(hb:S.root 19<4000000000):
  ∃m' S' r' L',FC.qY a m=some m'/\W S' m' nm r' L' ps ho/\r'.length+1=r.length/\gM (Fv S.ob a none) S'.ob/\S'.Fq=S.Fq/\S'.slots=S.slots/\S'.root 16=S.root 16/\S'.root 20=S.root 20/\S'.root 18+S'.root 19<=S.root 18+S.root 19+1:=by
 obtain⟨p,q,TF⟩:=List.append_of_mem (h.JZ hx ht);have hs:∃m1 v,(if bM (S.root 16) x.b.FB=true then bK 19 m else some m)=some m1/\W {S with root:=Fv S.root 19 v} m1 nm r L ps ho/\v<=S.root 19+1:=by
  by_cases o:bM (S.root 16) x.b.FB=true
  ·obtain⟨m1,e1,KU⟩:=h.FG (f:=19) (v:=S.root 19+1) (by simp) (.inl (by omega)) (λk=>by omega);refine⟨m1,_,?_,KU,Fm _⟩;rw[if_pos o];unfold bK;rw[h.g.Hh (by omega) (.inr (by omega)),Fj,e1]
  ·refine⟨m,S.root 19,if_neg o,?_,by omega⟩;have e:Fv S.root 19 (S.root 19)=S.root:=by
    funext b;by_cases k:b=19
    ·rw[k,ak]
    ·exact af _ _ k
   rw[e];exact h
 obtain⟨m1,v,e1,KU,hv⟩:=hs;rw[TF]at KU;obtain⟨m2,S2,L2,e2,QC,hE,hS⟩:=KU.IV hp;have q16:S2.root 16=S.root 16:=(hS.root 16 (by decide) (by decide)).trans (af S.root (a:=19) (x:=16) v (by decide));have q20:S2.root 20=S.root 20:=(hS.root 20 (by decide) (by decide)).trans (af S.root (a:=19) (x:=20) v (by decide));have q18:S2.root 18=S.root 18:=(hS.root 18 (by decide) (by decide)).trans (af S.root (a:=19) (x:=18) v (by decide));have q19:S2.root 19=v:=(hS.root 19 (by decide) (by decide)).trans (ak S.root 19 v);refine⟨m2,S2,p++q,L2,?_,QC,by rw[TF];simp;omega,hE,hS.Fq,hS.slots,q16,q20,by omega⟩;unfold FC.qY;rw[kC h.g hx ht,Fj,e1,Fj,e2]
end W
end Go.FC
namespace Go.FC
open Go.FP Go.Fy Go.Fz
theorem Db(n:Nat)(h:n<65536)(pre rest:List UInt8):kE (pre++(Qk n++rest)) pre.length=n:=by
 unfold kE Qk;rw[List.getD_eq_getElem?_getD,List.getD_eq_getElem?_getD,List.getElem?_append_right (Fm _),List.getElem?_append_right (Nat.le_succ _),Nat.sub_self,show pre.length.succ-pre.length=1 by rw[Nat.succ_eq_add_one];omega];simp only [List.cons_append,List.getElem?_cons_zero,List.getElem?_cons_succ,Option.getD_some,UInt8.toNat_ofNat'];omega
theorem Qd:∀(E:List Nat) (pre rest:List UInt8),(∀e∈E,e<65536)->(List.range E.length).map (λi=>kE (pre++(E.flatMap Qk++rest)) (pre.length+2*i))=E
 | [],_,_,_=>rfl
 |e::E,pre,rest,h=>by
  rw[List.length_cons,List.range_succ_eq_map,List.map_cons,List.map_map,List.flatMap_cons,List.append_assoc,Nat.mul_zero,Nat.add_zero,Db e (h e (by simp))];congr 1;have ih:=Qd E (pre++Qk e) rest λx hx=>h x (by simp[hx])
  conv=>rhs;rw[<-ih]
  refine List.map_congr_left λi _=> ?_;show kE _ (pre.length+2*(i+1))=_;rw[List.append_assoc,List.length_append,show(Qk e).length=2 from rfl];congr 1;omega
theorem Hj:∀(n:Nat) (l:List (List UInt8)),(GO n l).length=l.length
 |_,[]=>rfl
 |n,x::l=>by rw[GO,List.length_cons,List.length_cons,Hj]
theorem Qe:∀(n:Nat) (l:List (List UInt8)),∀e∈GO n l,e<=n+l.flatten.length
 |_,[],e,h=>by cases h
 |n,x::l,e,h=>by
  rw[GO]at h;rw[List.flatten_cons,List.length_append];rcases List.mem_cons.1 h with k|k
  ·omega
  ·have:=Qe _ l e k;omega
theorem M6:∀(n:Nat) (l:List (List UInt8)),(GO n l).getLastD n=n+l.flatten.length
 |_,[]=>rfl
 |n,x::l=>by
  rw[GO,List.getLastD_cons,M6 (n+x.length) l,List.flatten_cons,List.length_append,Nat.add_assoc]
theorem KL:∀(n:Nat) (l:List (List UInt8)),Hc (GO n l)=true
 |_,[]=>rfl
 |n,[x]=>rfl
 |n,x::y::l=>by
  have ih:=KL (n+x.length) (y::l);show(Nat.ble (n+x.length) (n+x.length+y.length)&&Hc (GO (n+x.length) (y::l)))=true;rw[ih,Bool.and_true,Nat.ble_eq];omega
theorem Om:∀(l:List (List UInt8)) (pre:List UInt8),iV (pre++l.flatten) pre.length (GO pre.length l)=l
 | [],_=>rfl
 |x::l,pre=>by
  have ih:=Om l (pre++x);rw[GO,iV];rw[List.length_append]at ih;have e:pre++(x::l).flatten=pre++x++l.flatten:=by rw[List.flatten_cons,List.append_assoc]
  rw[e,ih];congr 1;rw[<-List.length_append,List.take_left,List.drop_left]
theorem jF{l:List (List UInt8)}(h:(bS l).2=0):1<=l.length/\l.length<=16/\2+2*l.length+l.flatten.length<=480:=by
 have key:∀l:List (List UInt8),cZ l<=480->2*l.length+l.flatten.length<=cZ l:=by
  intro l
  induction l with
  |nil=>intro _;simp[cZ]
  |cons x r ih=>
   intro k;have e:cZ (x::r)=(2+min x.length 480)+cZ r:=by simp[cZ]
   rw[e]at k⊢;have:=ih (by omega);rw[List.length_cons,List.flatten_cons,List.length_append];omega
 unfold bS at h;by_cases c:l.length<1\/16<l.length
 ·rw[if_pos c]at h;cases h
 ·rw[if_neg c]at h;by_cases d:480<2+cZ l
  ·rw[if_pos d]at h;cases h
  ·have:=key l (by omega);exact⟨by omega,by omega,by omega⟩
theorem M7:∀E:List Nat,(E.flatMap Qk).length=2*E.length
 | []=>rfl
 |e::E=>by rw[List.flatMap_cons,List.length_append,M7 E,List.length_cons,show(Qk e).length=2 from rfl];omega
theorem vV(l:List (List UInt8)):(bU l).length=2+2*l.length+l.flatten.length:=by
 rw[bU,List.length_cons,List.length_cons,List.length_append,M7,Hj];omega
theorem vW{l:List (List UInt8)}(h:(bS l).2=0):aP (bU l)=(l,0):=by
 obtain⟨h1,Jp,h480⟩:=jF h;have hlen:=vV l;have e0:((bU l).getD 0 0).toNat=l.length:=by
  show(UInt8.ofNat l.length).toNat=_;rw[UInt8.toNat_ofNat'];omega
 have e1:((bU l).getD 1 0).toNat=0:=rfl;have en:(List.range l.length).map (λi=>kE (bU l) (2+2*i))=GO 0 l:=by
  have:=Qd (GO 0 l) [UInt8.ofNat l.length,0] l.flatten λe he=>by
   have:=Qe 0 l e he;omega
  rw[Hj]at this;exact this
 have LL:=M6 0 l;have ee:eR (bU l)=(GO 0 l,0):=by
  unfold eR;rw[if_neg (by omega),e0,e1,if_neg (by omega),if_neg (by omega),en];dsimp only;rw[if_neg (by rw[KL];decide),if_neg (by rw[LL];omega),if_neg (by rw[LL];omega)]
 unfold aP;rw[ee,if_pos rfl];refine congrArg (λx=>(x,0)) ?_;dsimp only;rw[Hj];have:(bU l).drop (2+2*l.length)=l.flatten:=by
  rw[bU];have e:(UInt8.ofNat l.length::0::((GO 0 l).flatMap Qk++l.flatten))=([UInt8.ofNat l.length,0]++(GO 0 l).flatMap Qk)++l.flatten:=by simp
  rw[e,List.drop_left' (by rw[List.length_append,M7,Hj];rfl)]
 rw[this];exact Om l []
def Cs(m:Mm)(E:Es)(now c v:Nat):Prop:=∃S nm r L,W S m nm r L [] 0/\(∀k d e,E k d e↔En S.ob nm k d e)/\S.root 16=now/\S.root 18+S.root 19+r.length<=c/\S.root 20<=v
theorem Ei(now Gv:Nat):oJ now Gv<18446744073709551616:=by
 unfold oJ fe;split<;>omega
namespace Cs
variable{m:Mm}{E:Es}{now c v:Nat}
theorem put(h:Cs m E now c v)(hc:c<4000000000)(hv:v+4096<=4000000000){name:List UInt8}{typ:Nat}{l:List (List UInt8)}(Gv:Nat)(ht:typ<65536)(hp:(aC name).2=0)(hs:(bS l).2=0):
  ∃g m' E1 E2 E',jJ name typ l Gv m=some ((g,0),m')/\(∀k d e,E1 k d e↔E k d e/\k≠((aC name).1,typ))/\gO now E1 g E2/\(∀k d e,E' k d e↔E2 k d e\/k=((aC name).1,typ)/\d=bU l/\e=oJ now Gv)/\Cs m' E' now (c+1) (v+4096):=by
 obtain⟨S,nm,r,L,h,hE,Jp,Tq,NE⟩:=h;obtain⟨JA,SZ,_⟩:=tL hp;obtain⟨s1,s16,s480⟩:=jF hs;obtain⟨ls,VM⟩:=Fp ((aC name).1);rw[<-VM]at JA SZ⊢;obtain⟨a,k,m1,KW,e1,h1,sm1,Zf⟩:=h.pin_is JA;obtain⟨d,ed,hd⟩:=h1.n.P3 h1.g h1.hs JA typ;have k1:=λkk d e=>(Ij.es sm1).en nm kk d e;have n1:=λkk=>(Ij.es sm1).ns nm kk;have hdrop:∃m2 S2 r2 L2,(if d≠0 then FC.qY d m1 else some m1)=some m2/\W S2 m2 nm r2 L2 [a] 0/\(∀k d e,En S2.ob nm k d e↔En S.ob nm k d e/\k≠(ls,typ))/\(∀k,Ns S2.ob nm k->Ns S.ob nm k)/\S2.root 16=S.root 16/\S2.root 20=S.root 20/\S2.root 18+S2.root 19+r2.length<=S.root 18+S.root 19+r.length:=by
  rcases hd with⟨rfl,Jy⟩|⟨x,hx,GQ,hxn,hxt⟩
  ·refine⟨m1,_,r,L,if_neg (λk=>k rfl),h1,λk d e=> ?_,n1,rfl,rfl,Fm _⟩;rw[k1 k d e];refine(and_iff_left_of_imp ?_).symm;rintro⟨b,y,hy,GL,q1,q2,_⟩ rfl;exact Jy b y hy GL ⟨by rw[SZ];exact q1,q2⟩
  ·obtain⟨m2,S2,r2,L2,e2,h2,Iu,PP,t1,t2,t3,t4,t5⟩:=h1.Qc (by simp) hx GQ (by show S.root 19<_;omega);refine⟨m2,S2,r2,L2,by rw[if_pos (h1.g.FV hx).1,e2],h2,λk d e=> ?_,λkk hk=>n1 kk ?_,t3,t4,?_⟩
   ·have:=PP.less h1.n hx GQ k d e;rw[this,k1 k d e,hxn,SZ,hxt]
   ·obtain⟨b,z,hz,tz,ez⟩:=PP.ns nm kk hk;exact⟨b,z,(aY hz).2,tz,ez⟩
   ·have t5':S2.root 18+S2.root 19<=S.root 18+S.root 19+1:=t5;omega
 obtain⟨m2,S2,r2,L2,e2,h2,PP,hN2,t16,t20,tc⟩:=hdrop;obtain⟨hka,rest,dn,Ki,hnd,Le,hre⟩:=Zf;have Le:k=dn.length:=Le;have hnd:nm a=dn.map FI:=hnd;have htake:ls.take (ls.length-k)=rest:=by
  rw[Ki,Le,List.length_append,Nat.add_sub_cancel,List.take_left]
 have RJ:=KK ls (Fz.bH JA);have hwl2:=Fz.bQ JA;have PC:rest.length<=ls.length:=by rw[Ki,List.length_append];omega
 have Vo:rest.reverse.reverse.map FI++nm a=ls:=by
  rw[List.reverse_reverse,hnd,<-List.map_append,<-Ki,SZ]
 obtain⟨GB,g1,m3,S3,YC,r3,L3,e3,h3,WE,w3,u16,_,_,uc,u20⟩:=Qb rest.reverse ⟨a,[]⟩ S2 m2 nm r2 L2 h2 (λx hx=>Fz.bH JA x (by rw[Ki];simp at hx⊢;exact .inl hx)) (by show aI (_++nm a)=0;rw[Vo];exact JA)
  (λx t ex hn=>by
   rcases hre with hr|⟨i,l0,hr,Jy⟩
   ·rw[hr]at ex;cases ex
   ·rw[hr,List.reverse_append]at ex;injection ex with e4 e5;obtain⟨b,z,hz,tz,ez⟩:=hN2 _ hn;have e4:l0=x:=e4;rw[<-e4]at ez;exact Jy b z hz tz ez)
  (by omega) (by rw[List.length_reverse];omega)
 rw[List.length_reverse]at u20;have hn3':YC GB=ls:=WE.trans Vo;obtain⟨g2,m4,S4,nm4,r4,L4,E2,e4,h4,w4,hE4,v16,_,_,vc,v20⟩:=Eh (typ:=typ) (en:=oJ now Gv) (p:=bU l) (w:=⟨GB,[]++g1⟩) h3 (by rw[vV];exact s480) (by rw[vW hs]) ht (Ei _ _)
  (λd e hk=>by
   have hk':En S3.ob YC (YC GB,typ) d e:=hk;rw[hn3']at hk';exact((PP _ _ _).1 (w3.sub _ _ _ hk')).2 rfl) (by omega) (by omega)
 have e16:S3.root 16=now:=by rw[u16,t16,Jp]
 refine⟨g1++g2,m4,En S2.ob nm,E2,En S4.ob nm4,?_,λk d e=>by rw[PP,hE],?_,λk d e=> ?_,S4,nm4,r4,L4,h4,λ_ _ _=>Iff.rfl,by rw[v16,e16],by omega,by omega⟩
 ·unfold jJ;rw[if_neg (λk=>k hp),if_neg (λk=>k hs),<-VM,e1,Fj];dsimp only;rw[ed,Fj,e2,Fj,htake,e3,Fj];dsimp only;rw[if_neg (λk=>k rfl),h3.g.Hh (by decide) (.inr (by decide)),Fj,e16,e4,Fj];show(some m4).bind _=_;rfl
 ·rw[u16]at w4;have:=w3.trans w4;rw[t16,Jp]at this;exact this
 ·rw[hE4];show _\/k=(YC GB,typ)/\_↔_;rw[hn3']
end Cs
end Go.FC
namespace Go.FC
open Go.FP Go.Fy Go.Fz
inductive TH(now:Nat):Es->List Ky->Es->Prop
 |nil {E E':Es} (h:∀k d e,E k d e↔E' k d e):TH now E [] E'
 |cons {E E1 E':Es} {l:List Ky} (k:Ky) (d:List UInt8) (e:Nat) (h:E k d e) (ho:bM now e=true) (h1:∀k' d' e',E1 k' d' e'↔E k' d' e'/\k'≠k) (t:TH now E1 l E'):TH now E (k::l) E'
theorem TH.left{now:Nat}{E0 E E':Es}{l:List Ky}(h:TH now E l E')(h0:∀k d e,E0 k d e↔E k d e):TH now E0 l E':=by
 cases h with
 |nil h=>exact .nil λk d e=>(h0 k d e).trans (h k d e)
 |cons k d e h ho h1 t=>exact .cons k d e ((h0 k d e).2 h) ho (λk' d' e'=>(h1 k' d' e').trans (and_congr_left λ_=>(h0 k' d' e').symm)) t
variable{S:Fw}{m:Mm}{nm:Nat->List (List UInt8)}{r L ps:List Nat}{ho:Nat}
theorem On:∀(k:Nat) (S:Fw) (m:Mm) (p t:List Nat),W S m nm r L ps ho->Lx (G3 S.ob) (Ii S.ob) (p++t)->(∀a∈p++t,a∈r)->k<=t.length->(t≠ []->S.root 14=t.headD 0)->
  ∃m' root',JB k m=some (t.take k,m')/\W {S with root:=root'} m' nm r L ps ho/\∀f,f≠14->root' f=S.root f
 |0,S,m,p,t,h,_,_,_,_=>⟨m,S.root,rfl,h,λ_ _=>rfl⟩
 |k+1,S,m,p,[],h,_,_,hk,_=>absurd hk (by simp)
 |k+1,S,m,p,a::t,h,hc,hm,hk,Yy=>by
  have Yy:S.root 14=a:=Yy (by simp);have QA:a∈r:=hm a (by simp);obtain⟨m1,e1,_,g1,rg1⟩:=h.rg.Ve h.g (λe=>by rw[e]at QA;cases QA);have KU:W {S with root:=Fv S.root 14 (G3 S.ob (S.root 14))} m1 nm r L ps ho:=
   h.Oe (ob':=S.ob) g1 (Ij.refl _) rg1 h.rf (af S.root (a:=14) (x:=17) _ (by decide)) (by rw[af S.root (a:=14) (x:=16) _ (by decide)];exact h.now) h.pn
  obtain⟨m2,Hi,e2,QC,Gc⟩:=On k _ m1 (p++ [a]) t KU (by simpa using hc) (by simpa using hm) (by simpa using hk) (λht=>by
   show Fv S.root 14 (G3 S.ob (S.root 14)) 14=_;rw[ak,Yy];cases t with
   |nil=>exact absurd rfl ht
   |cons b t=>exact(hc.1.right (r:=p)).1.1)
  refine⟨m2,Hi,?_,QC,λf hf=>(Gc f hf).trans (af _ _ hf)⟩;rw[JB,e1,Fj,e2,Fj,Yy];rfl
theorem LB:∀(l:List Nat) (S:Fw) (m:Mm) (r L:List Nat),W S m nm r L ps ho->ps.length<900->l.Nodup->(∀a∈l,∃x,S.ob a=some x/\x.b.tag=1)->S.root 18+S.root 19+r.length<4000000000->
  ∃g m' S' r' L',Je l m=some (g,m')/\W S' m' nm r' L' ps ho/\TH (S.root 16) (En S.ob nm) g (En S'.ob nm)/\S'.root 16=S.root 16/\S'.root 20=S.root 20/\S'.root 18+S'.root 19+r'.length=S.root 18+S.root 19+r.length
 | [],S,m,r,L,h,_,_,_,_=>⟨[],m,S,r,L,rfl,h,.nil λ_ _ _=>Iff.rfl,rfl,rfl,rfl⟩
 |a::l,S,m,r,L,h,hp,hnd,hl,hb=>by
  obtain⟨x,hx,ht⟩:=hl a (by simp);obtain⟨Nk,hnd2⟩:=List.nodup_cons.1 hnd;rw[Je,kC h.g hx ht,Fj];by_cases o:bM (S.root 16) x.b.FB=true
  ·rw[if_pos o];obtain⟨m1,S1,r1,L1,e1,h1,Pr,hE,t1,t2,t3,t4,t5⟩:=h.Sd hp hx ht (by omega);obtain⟨g,m2,S2,r2,L2,e2,h2,w2,q1,q2,q3⟩:=LB l S1 m1 r1 L1 h1 hp hnd2 (λb FF=>by
    obtain⟨y,hy,GL⟩:=hl b (by simp[FF]);have Pk:b≠a:=λe=>Nk (e▸FF);obtain⟨z,hz,s⟩:=hE.1 b y ((af _ _ Pk).trans hy) GL;exact⟨z,hz,s.tag.trans GL⟩) (by omega)
   rw[t3]at w2;exact⟨_::g,m2,S2,r2,L2,by rw[e1,Fj,e2,Fj],h2,.cons (nm x.b.name,x.b.typ) x.d x.b.FB ⟨a,x,hx,ht,rfl,rfl,rfl,rfl⟩ o (λk d e=>hE.less h.n hx ht k d e) w2,by omega,by omega,by omega⟩
  ·rw[if_neg o];exact LB l S m r L h hp hnd2 (λb FF=>hl b (by simp[FF])) hb
theorem W.S0(h:W S m nm r L ps ho)(hp:ps.length<900)(Ga:Nat)(hb:S.root 18+S.root 19+r.length<4000000000):
  ∃g m' S' r' L',iD Ga m=some (g,m')/\W S' m' nm r' L' ps ho/\TH (S.root 16) (En S.ob nm) g (En S'.ob nm)/\S'.root 16=S.root 16/\S'.root 20=S.root 20/\S'.root 18+S'.root 19+r'.length=S.root 18+S.root 19+r.length:=by
 have hex:∃t,(∀a∈t,a∈r)/\t.Nodup/\t.length=r.length/\Lx (G3 S.ob) (Ii S.ob) t/\(t≠ []->S.root 14=t.headD 0):=by
  by_cases hr:r= []
  ·exact⟨[],(λa ha=>absurd ha (List.not_mem_nil)),List.nodup_nil,(by rw[hr]),(by have:=h.rg.cy;rwa [hr]at this),λk=>absurd rfl k⟩
  ·obtain⟨p,q,e⟩:=List.append_of_mem (h.rg.bm.2 hr);have hpm:(S.root 14::q++p).Perm r:=by rw[e];exact List.perm_append_comm
   refine⟨S.root 14::q++p,λa ha=>hpm.mem_iff.1 ha,hpm.nodup_iff.2 h.rg.nd,hpm.length_eq,?_,λ_=>rfl⟩;have:=h.rg.cy;rw[e]at this;exact this.rot
 obtain⟨t,OC,Xg,Tb,ht4,ht5⟩:=hex;have hmin:min Ga r.length<=t.length:=by omega
 obtain⟨m1,GS,e1,h1,Gp⟩:=On (min Ga r.length) S m [] t h ht4 OC hmin ht5;obtain⟨g,m2,S2,r2,L2,e2,h2,w2,q1,q2,q3⟩:=LB (t.take (min Ga r.length)) _ m1 r L h1 hp (Xg.sublist (List.take_sublist _ _)) (λa ha=>h.rg.obj (OC a (List.mem_of_mem_take ha)))
  (by show GS 18+GS 19+_<_;rw[Gp 18 (by decide),Gp 19 (by decide)];exact hb)
 refine⟨g,m2,S2,r2,L2,?_,h2,?_,q1.trans (Gp 16 (by decide)),q2.trans (Gp 20 (by decide)),?_⟩
 ·unfold iD;rw[h.g.Hh (by decide) (.inr (by decide)),Fj,h.rg.ct,e1,Fj,e2]
 ·have:GS 16=S.root 16:=Gp 16 (by decide);rw[<-this];exact w2
 ·rw[q3];show GS 18+GS 19+_=_;rw[Gp 18 (by decide),Gp 19 (by decide)]
namespace Cs
variable{E:Es}{now c v:Nat}
theorem Qf(h:Cs m E now c v)(hc:c<4000000000)(Ga:Nat):∃g m' E',iD Ga m=some (g,m')/\TH now E g E'/\Cs m' E' now c v:=by
 obtain⟨S,nm,r,L,h,hE,Jp,Tq,NE⟩:=h;obtain⟨g,m2,S2,r2,L2,e2,h2,w2,q1,q2,q3⟩:=h.S0 (by simp) Ga (by omega);rw[Jp]at w2;exact⟨g,m2,_,e2,w2.left hE,S2,nm,r2,L2,h2,λ_ _ _=>Iff.rfl,q1.trans Jp,by omega,by omega⟩
theorem tick(h:Cs m E now c v)(hc:c<4000000000)(n:Nat):∃g m' E',gI n m=some (g,m')/\TH (fe now n 4611686018427387904) E g E'/\Cs m' E' (fe now n 4611686018427387904) c v:=by
 obtain⟨S,nm,r,L,h,hE,Jp,Tq,NE⟩:=h;have hle:fe now n 4611686018427387904<=4611686018427387904:=by unfold fe;omega
 obtain⟨m1,e1,h1⟩:=h.FG (f:=16) (v:=fe now n 4611686018427387904) (.inl rfl) (.inr ⟨rfl,hle⟩) (λ_=>hle);obtain⟨T,hT⟩:=Fp (Fv S.root 16 (fe now n 4611686018427387904));rw[<-hT]at h1;have t16:T 16=fe now n 4611686018427387904:=by rw[hT,ak]
 have t18:T 18=S.root 18:=by rw[hT,af _ _ (by decide)]
 have t19:T 19=S.root 19:=by rw[hT,af _ _ (by decide)]
 have t20:T 20=S.root 20:=by rw[hT,af _ _ (by decide)]
 have hcs:Cs m1 E (fe now n 4611686018427387904) c v:=⟨_,nm,r,L,h1,hE,t16,by show T 18+T 19+_<=_;omega,by show T 20<=_;omega⟩;obtain⟨g,m2,E',e2,w2,h2⟩:=hcs.Qf hc 4;refine⟨g,m2,E',?_,w2,h2⟩;unfold gI Bc;rw[h.g.Hh (by decide) (.inr (by decide)),Fj,Jp,e1,Fj,e2]
theorem un(h:Cs m E now c v){k:Ky}{d d':List UInt8}{e e':Nat}(h1:E k d e)(h2:E k d' e'):d=d'/\e=e':=by
 obtain⟨S,nm,r,L,h,hE,_⟩:=h;obtain⟨a,x,hx,ht,q1,q2,q3,q4⟩:=(hE k d e).1 h1;obtain⟨a',x',GD,Np,q1',q2',q3',q4'⟩:=(hE k d' e').1 h2;have hn:=h.n.inj (h.n.Jt a x hx) (h.n.Jt a' x' GD) (q1.trans q1'.symm);have:=h.n.ue a x a' x' hx ht GD Np hn (q2.trans q2'.symm);subst this;rw[hx]at GD;cases GD;exact⟨q3.symm.trans q3',q4.symm.trans q4'⟩
theorem find(h:Cs m E now c v)(hc:c<4000000000){name:List UInt8}(typ:Nat)(hp:(aC name).2=0):
  (∃S nm r L a x,W S m nm r L [] 0/\(∀k d e,E k d e↔En S.ob nm k d e)/\S.root 16=now/\S.root 18+S.root 19+r.length<=c/\S.root 20<=v/\S.ob a=some x/\x.b.tag=1/\nm x.b.name=(aC name).1/\x.b.typ=typ/\bM now x.b.FB=false/\dX false name typ m=some ((a,0),m))\/
  ∃m' E',(∀d e,E ((aC name).1,typ) d e->bM now e=true)/\dX false name typ m=some ((0,7),m')/\(∀k d e,E' k d e↔E k d e/\k≠((aC name).1,typ))/\Cs m' E' now c v:=by
 have VV:=fun {k d d' e e'}=>h.un (k:=k) (d:=d) (d':=d') (e:=e) (e':=e');obtain⟨S,nm,r,L,h,hE,Jp,Tq,NE⟩:=h;obtain⟨JA,SZ,_⟩:=tL hp;obtain⟨a,ea,ha⟩:=h.n.P3 h.g h.hs JA typ;rw[SZ]at ha;rcases ha with⟨rfl,Jy⟩|⟨x,hx,ht,h1,h2⟩
 ·have hno':∀d e,¬E ((aC name).1,typ) d e:=λd e k=>by
   obtain⟨b,y,hy,GL,q1,q2,_⟩:=(hE _ _ _).1 k;exact Jy b y hy GL ⟨q1,q2⟩
  refine .inr ⟨m,E,λd e k=>absurd k (hno' d e),?_,λk d e=>(and_iff_left_of_imp λq=> ?_).symm,S,nm,r,L,h,hE,Jp,Tq,NE⟩
  ·unfold dX;rw[if_neg (λk=>k hp),ea,Fj,if_pos rfl]
  ·rintro rfl;exact hno' d e q
 ·have hEx:E ((aC name).1,typ) x.d x.b.FB:=(hE _ _ _).2 ⟨a,x,hx,ht,h1,h2,rfl,rfl⟩;by_cases o:bM now x.b.FB=true
  ·obtain⟨m2,S2,r2,L2,e2,QC,Iu,PP,t1,t2,t3,t4,t5⟩:=h.Qc (by simp) hx ht (by omega);refine .inr ⟨m2,En S2.ob nm,λd e k=> ?_,?_,λk d e=> ?_,S2,nm,r2,L2,QC,λ_ _ _=>Iff.rfl,by omega,by omega,by omega⟩
   ·rw[(VV k hEx).2];exact o
   ·unfold dX;rw[if_neg (λk=>k hp),ea,Fj,if_neg (h.g.FV hx).1,kC h.g hx ht,Fj,Jp,if_pos o,if_neg (by decide),e2,Fj]
   ·rw[PP.less h.n hx ht k d e,hE,h1,h2]
  ·refine .inl ⟨S,nm,r,L,a,x,h,hE,Jp,Tq,NE,hx,ht,h1,h2,by simpa using o,?_⟩;unfold dX;rw[if_neg (λk=>k hp),ea,Fj,if_neg (h.g.FV hx).1,kC h.g hx ht,Fj,Jp,if_neg o]
theorem get(h:Cs m E now c v)(hc:c<4000000000){name:List UInt8}(typ:Nat)(hp:(aC name).2=0):
  (∃d e m',E ((aC name).1,typ) d e/\bM now e=false/\eS false name typ m=some (((aP d).1,0),m')/\Cs m' E now c v)\/
  ∃m' E',(∀d e,E ((aC name).1,typ) d e->bM now e=true)/\eS false name typ m=some (([],7),m')/\(∀k d e,E' k d e↔E k d e/\k≠((aC name).1,typ))/\Cs m' E' now c v:=by
 rcases h.find hc typ hp with⟨S,nm,r,L,a,x,h,hE,Jp,Tq,NE,hx,ht,h1,h2,o,e⟩|⟨m',E',h1,h2,h3,h4⟩
 ·obtain⟨m1,KW,e1,KU,s1,_⟩:=h.Vi hx ht (u:=1) (by decide);obtain⟨y,hy,sy⟩:=s1.1 a x hx;refine .inl ⟨x.d,x.b.FB,m1,(hE _ _ _).2 ⟨a,x,hx,ht,h1,h2,rfl,rfl⟩,o,?_,_,nm,r,L,KU,λk d e=>(hE k d e).trans ((Ij.es s1).en nm k d e),Jp,Tq,NE⟩;have GL:=sy.tag.trans ht;unfold eS oL;rw[e,Fj];dsimp only;rw[if_neg (λk=>k rfl),e1,Fj,Fj];dsimp only;rw[if_neg (λk=>k rfl),KU.n.Va KU.g hy GL,Fj,sy.d,if_neg (λk=>k (h.n.VX a x hx ht).2)]
 ·refine .inr ⟨m',E',h1,?_,h3,h4⟩;unfold eS oL;rw[h2,Fj];dsimp only;rw[if_pos (by decide),Fj];dsimp only;rw[if_pos (by decide)]
theorem del(h:Cs m E now c v)(hc:c<4000000000){name:List UInt8}(typ:Nat)(hp:(aC name).2=0):
  ∃m' E' q,jo name typ m=some (q,m')/\(∀k d e,E' k d e↔E k d e/\k≠((aC name).1,typ))/\Cs m' E' now c v/\(q=0/\(∃d e,E ((aC name).1,typ) d e/\bM now e=false)\/q=7/\∀d e,E ((aC name).1,typ) d e->bM now e=true):=by
 rcases h.find hc typ hp with⟨S,nm,r,L,a,x,h,hE,Jp,Tq,NE,hx,ht,h1,h2,o,e⟩|⟨m',E',h1,h2,h3,h4⟩
 ·obtain⟨p,q,TF⟩:=List.append_of_mem (h.JZ hx ht);have PC:r.length=p.length+(q.length+1):=by rw[TF];simp
  have h':=h;rw[TF]at h';obtain⟨m2,S2,L2,e2,QC,PP,hS⟩:=h'.IV (by simp);have q16:S2.root 16=S.root 16:=hS.root 16 (by decide) (by decide);have q20:S2.root 20=S.root 20:=hS.root 20 (by decide) (by decide);have q18:S2.root 18=S.root 18:=hS.root 18 (by decide) (by decide);have q19:S2.root 19=S.root 19:=hS.root 19 (by decide) (by decide);refine⟨m2,En S2.ob nm,0,?_,λk d e=> ?_,⟨S2,nm,p++q,L2,QC,λ_ _ _=>Iff.rfl,by omega,by rw[List.length_append];omega,by omega⟩,.inl ⟨rfl,x.d,x.b.FB,(hE _ _ _).2 ⟨a,x,hx,ht,h1,h2,rfl,rfl⟩,o⟩⟩
  ·unfold jo;rw[e,Fj];dsimp only;rw[if_neg (λk=>k rfl),e2,Fj]
  ·rw[PP.less h.n hx ht k d e,hE,h1,h2]
 ·refine⟨m',E',7,?_,h3,h4,.inr ⟨rfl,h1⟩⟩;unfold jo;rw[h2,Fj];dsimp only;rw[if_pos (by decide)]
theorem step(h:Cs m E now c v)(hv:v+32<=4000000000):∃q m',gV m=some (q,m')/\Cs m' E now c (v+32):=by
 obtain⟨S,nm,r,L,h,hE,Jp,Tq,NE⟩:=h;rcases h.Sc (by omega)with⟨e,_⟩|⟨q,m',S',Ja,r',L',e,hW,_,hr,_,_,Tk,h20',_,_,hE'⟩
 ·exact⟨none,m,e,S,nm,r,L,h,hE,Jp,Tq,by omega⟩
 ·refine⟨some q,m',e,S',Ja,r',L',hW,λk d e=>(hE k d e).trans (hE' k d e),(Tk 16 (.inl rfl)).trans Jp,?_,by omega⟩;rw[Tk 18 (.inr (.inl rfl)),Tk 19 (.inr (.inr rfl)),hr];exact Tq
end Cs
end Go.FC
namespace Go.FC
open Go.FP Go.Fy Go.Fz
def VZ(m:Mm)(f:Nat):Nat:=m.b.load (Mm.GA f) (Mm.Gl f)
def AP(s n:Nat)(m:Mm):Fw:= {Fq:=s,slots:=n,sl:=λ_=>⟨0,[]⟩,out:=λ_=>false,ob:=λ_=>none,slot:=λ_=>0,root:=VZ m}
def Dc(s n:Nat)(m:Mm):Hp:= {Fq:=s,slots:=n,root:=VZ m,Ft:=λ_=>0,live:=λ_=>0,free:=λ_=>0,ln:=λ_=>some 0,slot:=λ_=>0,byte:=λ_=>0,kind:=λ_=>7}
def EP(s n:Nat)(m:Mm):Bool:=
 Nat.beq m.Fq s&&(Nat.beq m.slots n&&(LP s n&&((List.range (aN s n/4)).all (λg=>Nat.beq (m.k.get g) (tB s n g))&&((List.range (s*256)).all (λg=>Nat.beq (m.k.get (aN s n/4+g)) 7)&&
 ((List.range 10).all (λf=>Nat.beq (VZ m (f+3)) ((Dc s n m).first f))&&((List.range s).all (λt=>(List.range 5).all λp=>Nat.beq (m.b.load (128+t*16+n9 p) (hW p)) ((Dc s n m).head t p))&&
 ((List.range n).all (λi=>Nat.beq (m.b.load (az s+i*4) 4) 0)&&((List.range (s*1024)).all (λx=>Nat.beq (m.b.get (aN s n+x)) 0)&&
 ((List.range 8).all (λx=>Nat.beq (m.b.get x) 0)&&((List.range 32).all (λx=>Nat.beq (m.b.get (96+x)) 0)&&((List.range (aN s n-(az s+n*4))).all (λx=>Nat.beq (m.b.get (az s+n*4+x)) 0)&&
 (List.range 8).all (λf=>Nat.beq (VZ m (f+13)) 0))))))))))))
theorem EQ{s n:Nat}{m:Mm}(h:EP s n m=true):Cs m (λ_ _ _=>False) 0 0 0:=by
 simp only [EP,Bool.and_eq_true,List.all_eq_true,List.mem_range,Nat.beq_eq]at h;obtain⟨h1,h2,h3,h4,h5,h6,h7,h8,h9,ha,hb,hc,hd⟩:=h;have hz:=bu h3;obtain⟨z1,z3,z4,z5,z6⟩:br s n<=200000/\br s n%16=0/\aN s n%16=0/\az s+n*4<=aN s n/\aN s n+s*1024=br s n:=⟨hz.1,hz.2.2.1,hz.2.2.2.1,hz.2.2.2.2.1,hz.2.2.2.2.2⟩;have F4:=bB.1 h3;have hI:Is (Dc s n m).lo m:=by
  refine⟨h1,h2,h3,h4,λg g1 g2=> ?_,λf hf=> ?_,λt p ht hp=>h7 t ht p hp,h8,λx x1 x2=> ?_,λx hx=> ?_⟩
  ·have g1:aN s n/4<=g:=g1;have g2:g<br s n/4:=g2;have:=h5 (g-aN s n/4) (by omega);rw[show aN s n/4+(g-aN s n/4)=g by omega]at this;exact this
  ·show _=if 3<=f/\f<13 then(Dc s n m).first (f-3)else VZ m f
   by_cases c:3<=f/\f<13
   ·rw[if_pos c];have:=h6 (f-3) (by omega);rw[show f-3+3=f by omega]at this;exact this
   ·rw[if_neg c];rfl
  ·have x1:aN s n<=x:=x1;have x2:x<br s n:=x2;have:=h9 (x-aN s n) (by omega);rw[show aN s n+(x-aN s n)=x by omega]at this;exact this
  ·have hx:x<8\/(96<=x/\x<128)\/(az s+n*4<=x/\x<aN s n):=hx;rcases hx with k|k|k
   ·exact ha x k
   ·have:=hb (x-96) (by omega)
    rwa [show 96+(x-96)=x by omega]at this
   ·have:=hc (x-(az s+n*4)) (by omega)
    rwa [show az s+n*4+(x-(az s+n*4))=x by omega]at this
 have r0:∀f,13<=f->f<21->VZ m f=0:=λf f1 f2=>by
  have:=hd (f-13) (by omega)
  rwa [show f-13+13=f by omega]at this
 have hF:aQ (AP s n m) (Dc s n m):=⟨rfl,rfl,λ_ _ _=>rfl,λ_ _=>rfl,λt ht=>⟨Nat.zero_le _,rfl,rfl,rfl,rfl,λ_ r hr=>⟨rfl,rfl⟩,λi hi=>absurd hi (by rw[show((AP s n m).sl t).Ft=0 from rfl,Lv.2];omega),λk=>absurd rfl k⟩⟩;have hW:Wf (AP s n m):=⟨λ_ _=>List.nodup_nil,λ_ _ a ha=>absurd ha List.not_mem_nil,λ_ _ k=>absurd rfl k,λa x hx=>(by cases hx)⟩;have hX:Ix (AP s n m):=⟨⟨by show 2<=n;omega,λi k=>absurd rfl k,λi k=>absurd rfl k,λi j _ _ k=>absurd rfl k,λk=>absurd rfl (k 0 (by show 0<n;omega))⟩,λi _ k=>absurd rfl k⟩;refine⟨AP s n m,λ_=> [],[],[],⟨⟨⟨_,hI,hF⟩,hW,hX⟩,?_,λa ha=>⟨λ⟨i,_,e⟩=>absurd e.symm ha,λ⟨x,hx⟩=>(by cases hx)⟩,?_,List.nodup_nil,λa=>⟨λk=>absurd k List.not_mem_nil,λ⟨x,hx⟩=>(by cases hx)⟩,λa x hx=>(by cases hx),r0 17 (by decide) (by decide),λ_=>rfl,λa t i GG=>absurd GG.2.1 (by rw[show((AP s n m).sl t).Ft=0 from rfl,Lv.2];omega),?_,λp hp=>absurd hp List.not_mem_nil,λa x hx=>(by cases hx)⟩,λk d e=>⟨λk=>k.elim,λ⟨a,x,hx,_⟩=>(by cases hx)⟩,r0 16 (by decide) (by decide),?_,?_⟩
 ·exact⟨rfl,rfl,λa x hx=>(by cases hx),λa x hx=>(by cases hx),λa x a' x' hx=>(by cases hx),λa x hx=>(by cases hx),λa x a' x' hx=>(by cases hx)⟩
 ·exact⟨List.nodup_nil,λa=>⟨λk=>absurd k List.not_mem_nil,λ⟨_,x,hx,_⟩=>(by cases hx)⟩,⟨trivial,λk=>absurd rfl k⟩,r0 13 (by decide) (by decide),⟨λ_=>r0 14 (by decide) (by decide),λk=>absurd rfl k⟩,r0 15 (by decide) (by decide)⟩
 ·show VZ m 16<=_;rw[r0 16 (by decide) (by decide)];exact Nat.zero_le _
 ·show VZ m 18+VZ m 19+0<=0;rw[r0 18 (by decide) (by decide),r0 19 (by decide) (by decide)];exact Fm _
 ·show VZ m 20<=0;rw[r0 20 (by decide) (by decide)];exact Fm _
def sA(s:Nat):Bool:=match bP (fB s (32*s))with
 |some m=>EP s (32*s) m
 |none=>false
theorem Cs.new_of{s:Nat}(h:sA s=true):∃m,bP (fB s (32*s))=some m/\Cs m (λ_ _ _=>False) 0 0 0:=by
 unfold sA at h;cases e:bP (fB s (32*s))with
 |none=>rw[e]at h;cases h
 |some m=>rw[e]at h;exact⟨m,rfl,EQ h⟩
set_option maxRecDepth 1000000 in
theorem new7:sA 7=true:=by decide+kernel
set_option maxRecDepth 1000000 in
theorem new8:sA 8=true:=by decide+kernel
set_option maxRecDepth 1000000 in
theorem new9:sA 9=true:=by decide+kernel
def Ag(now:Nat)(E E':Es):Prop:=∀k d e,bM now e=false->(E k d e↔E' k d e)
def Un(E:Es):Prop:=∀k d e d' e',E k d e->E k d' e'->d=d'/\e=e'
theorem Ag.trans{now:Nat}{A B C:Es}(h:Ag now A B)(k:Ag now B C):Ag now A C:=λq d e o=>(h q d e o).trans (k q d e o)
theorem Ag.symm{now:Nat}{A B:Es}(h:Ag now A B):Ag now B A:=λq d e o=>(h q d e o).symm
theorem Ag.less{now:Nat}{A A' B B':Es}{k:Ky}(h:Ag now A B)(hA:∀k' d e,A' k' d e↔A k' d e/\k'≠k)(hB:∀k' d e,B' k' d e↔B k' d e/\k'≠k):Ag now A' B':=λq d e o=>by
 rw[hA,hB,h q d e o]
theorem Ag.over{now:Nat}{E E1:Es}{k:Ky}{d:List UInt8}{e:Nat}(u:Un E)(h:E k d e)(ho:bM now e=true)(h1:∀k' d' e',E1 k' d' e'↔E k' d' e'/\k'≠k):Ag now E E1:=λq d' e' o=>by
 rw[h1];refine(and_iff_left_of_imp λhq eq=> ?_).symm;subst eq;rw[(u q d' e' d e hq h).2,ho]at o;cases o
theorem Un.sub{E E':Es}(u:Un E)(h:∀k d e,E' k d e->E k d e):Un E':=λk d e d' e' h1 h2=>u k d e d' e' (h _ _ _ h1) (h _ _ _ h2)
theorem gO.ag{now:Nat}{E E':Es}{g:List Ky}(w:gO now E g E')(hg:g= [])(u:Un E):Ag now E E':=by
 induction w with
 |nil h=>exact λk d e _=>h k d e
 |over k d e h ho h1 t ih=>exact(Ag.over u h ho h1).trans (ih hg (u.sub λk d e q=>((h1 k d e).1 q).1))
 |gone k d e h ho h1 t ih=>cases hg
theorem TH.ag{now:Nat}{E E':Es}{g:List Ky}(w:TH now E g E')(u:Un E):Ag now E E':=by
 induction w with
 |nil h=>exact λk d e _=>h k d e
 |cons k d e h ho h1 t ih=>exact(Ag.over u h ho h1).trans (ih (u.sub λk d e q=>((h1 k d e).1 q).1))
theorem vX{now Ko e:Nat}(hn:now<=Ko)(ho:bM Ko e=false):bM now e=false:=by
 unfold bM at ho⊢;by_cases e0:e=0
 ·rw[e0];rfl
 ·have e1:Nat.beq e 0=false:=Tr.I0 e0;rw[e1]at ho⊢;have e2:¬e<=Ko:=λk=>by
   rw[Nat.ble_eq_true_of_le k]at ho;cases ho
  have e3:Nat.ble e now=false:=by
   rw[<-Bool.not_eq_true,Nat.ble_eq];omega
  rw[e3];rfl
def Bt(ma mb:Mm)(now c v:Nat):Prop:=∃A B,Cs ma A now c v/\Cs mb B now c v/\Ag now A B
theorem Cs.uni{m:Mm}{E:Es}{now c v:Nat}(h:Cs m E now c v):Un E:=λk d e d' e' h1 h2=>h.un h1 h2
theorem Cs.more{m:Mm}{E:Es}{now c v c' v':Nat}(h:Cs m E now c v)(hc:c<=c')(hv:v<=v'):Cs m E now c' v':=by
 obtain⟨S,nm,r,L,h1,h2,h3,h4,h5⟩:=h;exact⟨S,nm,r,L,h1,h2,h3,Nat.le_trans h4 hc,Nat.le_trans h5 hv⟩
theorem Cs.now_le{m:Mm}{E:Es}{now c v:Nat}(h:Cs m E now c v):now<=4611686018427387904:=by
 obtain⟨S,nm,r,L,h1,h2,h3,h4,h5⟩:=h;rw[<-h3];exact h1.now
theorem sB{name:List UInt8}(h:(aC name).2≠0)(typ:Nat)(l:List (List UInt8))(Gv:Nat)(m:Mm):jJ name typ l Gv m=some (([],(aC name).2),m):=if_pos h
theorem sC{name:List UInt8}(h:(aC name).2=0)(typ:Nat){l:List (List UInt8)}(hs:(bS l).2≠0)(Gv:Nat)(m:Mm):jJ name typ l Gv m=some (([],(bS l).2),m):=(if_neg λk=>k h).trans (if_pos hs)
theorem sD{name:List UInt8}(h:(aC name).2≠0)(typ:Nat)(m:Mm):jo name typ m=some ((aC name).2,m):=by
 unfold jo dX;rw[if_pos h,Fj];exact if_pos h
theorem sE{name:List UInt8}(h:(aC name).2≠0)(typ:Nat)(m:Mm):eS false name typ m=some (([],(aC name).2),m):=by
 unfold eS oL dX;rw[if_pos h,Fj];dsimp only;rw[if_pos h,Fj];exact if_pos h
namespace Bt
variable{ma mb:Mm}{now c v:Nat}
theorem more(h:Bt ma mb now c v){c' v':Nat}(hc:c<=c')(hv:v<=v'):Bt ma mb now c' v':=by
 obtain⟨A,B,h1,h2,h3⟩:=h;exact⟨A,B,h1.more hc hv,h2.more hc hv,h3⟩
theorem Xy(h:Bt ma mb now c v)(hv:v+32<=4000000000):∃q Im,gV mb=some (q,Im)/\Bt ma Im now c (v+32):=by
 obtain⟨A,B,h1,h2,h3⟩:=h;obtain⟨q,Im,e,h4⟩:=h2.step hv;exact⟨q,Im,e,A,B,h1.more (Fm _) (by omega),h4,h3⟩
theorem put(h:Bt ma mb now c v)(hc:c<4000000000)(hv:v+4096<=4000000000){name:List UInt8}{typ:Nat}{l:List (List UInt8)}(Gv:Nat)(ht:typ<65536)(hp:(aC name).2=0)(hs:(bS l).2=0):
  ∃g g' IW Im,jJ name typ l Gv ma=some ((g,0),IW)/\jJ name typ l Gv mb=some ((g',0),Im)/\(g= []->g'= []->Bt IW Im now (c+1) (v+4096)):=by
 obtain⟨A,B,h1,h2,h3⟩:=h;obtain⟨g,IW,A1,A2,A3,e1,a1,a2,a3,a4⟩:=h1.put hc hv Gv ht hp hs;obtain⟨g',Im,B1,B2,B3,e2,b1,b2,b3,b4⟩:=h2.put hc hv Gv ht hp hs;refine⟨g,g',IW,Im,e1,e2,λhg UB=>⟨A3,B3,a4,b4,λk d e o=> ?_⟩⟩;have x1:=a2.ag hg (h1.uni.sub λk d e q=>((a1 k d e).1 q).1);have x2:=b2.ag UB (h2.uni.sub λk d e q=>((b1 k d e).1 q).1);have x3:=x1.symm.trans ((h3.less a1 b1).trans x2);rw[a3,b3,x3 k d e o]
theorem Qf(h:Bt ma mb now c v)(hc:c<4000000000)(Ga:Nat):∃g g' IW Im,iD Ga ma=some (g,IW)/\iD Ga mb=some (g',Im)/\Bt IW Im now c v:=by
 obtain⟨A,B,h1,h2,h3⟩:=h;obtain⟨g,IW,A',e1,a1,a2⟩:=h1.Qf hc Ga;obtain⟨g',Im,B',e2,b1,b2⟩:=h2.Qf hc Ga;exact⟨g,g',IW,Im,e1,e2,A',B',a2,b2,(a1.ag h1.uni).symm.trans (h3.trans (b1.ag h2.uni))⟩
theorem tick(h:Bt ma mb now c v)(hc:c<4000000000)(n:Nat):∃g g' IW Im,gI n ma=some (g,IW)/\gI n mb=some (g',Im)/\Bt IW Im (fe now n 4611686018427387904) c v:=by
 obtain⟨A,B,h1,h2,h3⟩:=h;obtain⟨g,IW,A',e1,a1,a2⟩:=h1.tick hc n;obtain⟨g',Im,B',e2,b1,b2⟩:=h2.tick hc n;have hn:=h1.now_le;have hle:now<=fe now n 4611686018427387904:=by unfold fe;omega
 refine⟨g,g',IW,Im,e1,e2,A',B',a2,b2,(a1.ag h1.uni).symm.trans (Ag.trans (λk d e o=>h3 k d e (vX hle o)) (b1.ag h2.uni))⟩
theorem get(h:Bt ma mb now c v)(hc:c<4000000000){name:List UInt8}(typ:Nat)(hp:(aC name).2=0):∃q IW Im,eS false name typ ma=some (q,IW)/\eS false name typ mb=some (q,Im)/\Bt IW Im now c v:=by
 obtain⟨A,B,h1,h2,h3⟩:=h;rcases h1.get hc typ hp with⟨d,e,IW,a1,a2,a3,a4⟩|⟨IW,A',a1,a2,a3,a4⟩
 ·rcases h2.get hc typ hp with⟨d',e',Im,b1,b2,b3,b4⟩|⟨Im,B',b1,b2,b3,b4⟩
  ·have:=(h1.un a1 ((h3 _ _ _ b2).2 b1)).1;subst this;exact⟨_,IW,Im,a3,b3,A,B,a4,b4,h3⟩
  ·have:=b1 _ _ ((h3 _ _ _ a2).1 a1);rw[a2]at this;cases this
 ·rcases h2.get hc typ hp with⟨d',e',Im,b1,b2,b3,b4⟩|⟨Im,B',b1,b2,b3,b4⟩
  ·have:=a1 _ _ ((h3 _ _ _ b2).2 b1);rw[b2]at this;cases this
  ·exact⟨_,IW,Im,a2,b2,A',B',a4,b4,h3.less a3 b3⟩
theorem del(h:Bt ma mb now c v)(hc:c<4000000000){name:List UInt8}(typ:Nat)(hp:(aC name).2=0):∃q IW Im,jo name typ ma=some (q,IW)/\jo name typ mb=some (q,Im)/\Bt IW Im now c v:=by
 obtain⟨A,B,h1,h2,h3⟩:=h;obtain⟨IW,A',q,a1,a2,a3,a4⟩:=h1.del hc typ hp;obtain⟨Im,B',q',b1,b2,b3,b4⟩:=h2.del hc typ hp;have e:q=q':=by
  rcases a4 with⟨rfl,d,e,x1,x2⟩|⟨rfl,x1⟩
  ·rcases b4 with⟨rfl,_⟩|⟨rfl,y1⟩
   ·rfl
   ·have:=y1 _ _ ((h3 _ _ _ x2).1 x1);rw[x2]at this;cases this
  ·rcases b4 with⟨rfl,d,e,y1,y2⟩|⟨rfl,y1⟩
   ·have:=x1 _ _ ((h3 _ _ _ y2).2 y1);rw[y2]at this;cases this
   ·rfl
 subst e;exact⟨q,IW,Im,a1,b1,A',B',a3,b3,h3.less a2 b2⟩
theorem new{s:Nat}(h7:7<=s)(h9:s<=9):∃m,bP (fB s (32*s))=some m/\Bt m m 0 0 0:=by
 have key:sA s=true:=by
  have:s=7\/s=8\/s=9:=by omega
  rcases this with rfl|rfl|rfl
  ·exact new7
  ·exact new8
  ·exact new9
 obtain⟨m,e,h⟩:=Cs.new_of key;exact⟨m,e,_,_,h,h,λ_ _ _ _=>Iff.rfl⟩
end Bt
end Go.FC
namespace Go.FC
open Go.FP Go.Fy Go.Fz
def bh(kd:Int)(Kq:List UInt8)(ty:Nat)(rs:List (List UInt8))(lf n:Nat)(m:Mm):Option ((List (List UInt8)×Int×Bool)×Mm):=
 if kd=1 then(jJ Kq ty rs lf m).bind λq=>some (([],q.1.2,decide (0<q.1.1.length)),q.2)
 else if kd=4 then(jo Kq ty m).bind λq=>some (([],q.1,false),q.2)
 else if kd=5 then(gI n m).bind λq=>some (([],0,false),q.2)
 else if kd=6 then(if n=18446744073709551615 then some (([],2,false),m)else(iD (n%1000) m).bind λq=>some (([],0,false),q.2))
 else(eS false Kq ty m).bind λq=>some ((q.1.1,q.1.2,false),q.2)
theorem Bt.quiet{ma mb:Mm}{now c v:Nat}(h:Bt ma mb now c v)(hc:c<4000000000)(hv:v+4096<=4000000000)(kd:Int)(Kq:List UInt8){ty:Nat}(ht:ty<65536)(rs:List (List UInt8))(lf n:Nat):
  ∃q q' IW Im,bh kd Kq ty rs lf n ma=some (q,IW)/\bh kd Kq ty rs lf n mb=some (q',Im)/\(q.2.2=false->q'.2.2=false->q.1=q'.1/\q.2.1=q'.2.1/\∃Ko,Bt IW Im Ko (c+1) (v+4096)):=by
 have same:∀ {q:List (List UInt8)×Int×Bool} {IW Im:Mm} {Ko:Nat},bh kd Kq ty rs lf n ma=some (q,IW)->bh kd Kq ty rs lf n mb=some (q,Im)->Bt IW Im Ko c v->_:=fun {q IW Im Ko} e1 e2 h'=>
  (⟨q,q,IW,Im,e1,e2,λ_ _=>⟨rfl,rfl,Ko,h'.more (by omega) (by omega)⟩⟩:∃q q' IW Im,bh kd Kq ty rs lf n ma=some (q,IW)/\bh kd Kq ty rs lf n mb=some (q',Im)/\(q.2.2=false->q'.2.2=false->q.1=q'.1/\q.2.1=q'.2.1/\∃Ko,Bt IW Im Ko (c+1) (v+4096)))
 by_cases k1:kd=1
 ·by_cases hp:(aC Kq).2=0
  ·by_cases hs:(bS rs).2=0
   ·obtain⟨g,g',IW,Im,e1,e2,e3⟩:=h.put hc hv lf ht hp hs;refine⟨([],0,decide (0<g.length)),([],0,decide (0<g'.length)),IW,Im,by unfold bh;rw[if_pos k1,e1,Fj],by unfold bh;rw[if_pos k1,e2,Fj],λh1 h2=>⟨rfl,rfl,now,e3 ?_ ?_⟩⟩
    ·have h1:decide (0<g.length)=false:=h1;exact List.eq_nil_of_length_eq_zero (by have:=of_decide_eq_false h1;omega)
    ·have h2:decide (0<g'.length)=false:=h2;exact List.eq_nil_of_length_eq_zero (by have:=of_decide_eq_false h2;omega)
   ·refine same (q:=([],(bS rs).2,false)) ?_ ?_ h
    ·unfold bh;rw[if_pos k1,sC hp ty hs,Fj];rfl
    ·unfold bh;rw[if_pos k1,sC hp ty hs,Fj];rfl
  ·refine same (q:=([],(aC Kq).2,false)) ?_ ?_ h
   ·unfold bh;rw[if_pos k1,sB hp ty,Fj];rfl
   ·unfold bh;rw[if_pos k1,sB hp ty,Fj];rfl
 by_cases k4:kd=4
 ·by_cases hp:(aC Kq).2=0
  ·obtain⟨q,IW,Im,e1,e2,e3⟩:=h.del hc ty hp;refine same (q:=([],q,false)) ?_ ?_ e3
   ·unfold bh;rw[if_neg k1,if_pos k4,e1,Fj]
   ·unfold bh;rw[if_neg k1,if_pos k4,e2,Fj]
  ·refine same (q:=([],(aC Kq).2,false)) ?_ ?_ h
   ·unfold bh;rw[if_neg k1,if_pos k4,sD hp ty,Fj]
   ·unfold bh;rw[if_neg k1,if_pos k4,sD hp ty,Fj]
 by_cases k5:kd=5
 ·obtain⟨g,g',IW,Im,e1,e2,e3⟩:=h.tick hc n;refine same (q:=([],0,false)) ?_ ?_ e3
  ·unfold bh;rw[if_neg k1,if_neg k4,if_pos k5,e1,Fj]
  ·unfold bh;rw[if_neg k1,if_neg k4,if_pos k5,e2,Fj]
 by_cases k6:kd=6
 ·by_cases k7:n=18446744073709551615
  ·refine same (q:=([],2,false)) ?_ ?_ h
   ·unfold bh;rw[if_neg k1,if_neg k4,if_neg k5,if_pos k6,if_pos k7]
   ·unfold bh;rw[if_neg k1,if_neg k4,if_neg k5,if_pos k6,if_pos k7]
  ·obtain⟨g,g',IW,Im,e1,e2,e3⟩:=h.Qf hc (n%1000);refine same (q:=([],0,false)) ?_ ?_ e3
   ·unfold bh;rw[if_neg k1,if_neg k4,if_neg k5,if_pos k6,if_neg k7,e1,Fj]
   ·unfold bh;rw[if_neg k1,if_neg k4,if_neg k5,if_pos k6,if_neg k7,e2,Fj]
 ·by_cases hp:(aC Kq).2=0
  ·obtain⟨q,IW,Im,e1,e2,e3⟩:=h.get hc ty hp;refine same (q:=(q.1,q.2,false)) ?_ ?_ e3
   ·unfold bh;rw[if_neg k1,if_neg k4,if_neg k5,if_neg k6,e1,Fj]
   ·unfold bh;rw[if_neg k1,if_neg k4,if_neg k5,if_neg k6,e2,Fj]
  ·refine same (q:=([],(aC Kq).2,false)) ?_ ?_ h
   ·unfold bh;rw[if_neg k1,if_neg k4,if_neg k5,if_neg k6,sE hp ty,Fj]
   ·unfold bh;rw[if_neg k1,if_neg k4,if_neg k5,if_neg k6,sE hp ty,Fj]
end Go.FC
