/-
  Lemmas on the way to the row. No condition beyond their own.
-/
import Derived.Test.YtifkphcaelafjaaGreatDoorQ17
set_option maxHeartbeats 25600000
set_option maxRecDepth 100000
set_option linter.unusedVariables false
set_option linter.unusedSimpArgs false
namespace Go.FC
structure G(S:Fw)(m:Mm):Prop where
 J9:NM S m
 wf:Wf S
 ix:Ix S
namespace G
variable{S:Fw}{m:Mm}
theorem NL(g:G S m):m.Fq=S.Fq/\m.slots=S.slots/\7<=S.Fq/\S.Fq<=64/\S.slots%2=0/\S.Fq*32<=S.slots/\S.slots<=8192/\S.size<=200000/\8<=S.base:=by
 obtain⟨X,hm,h⟩:=g.J9;have:=h.Hk hm;exact⟨hm.Fq.trans h.Fq,hm.slots.trans h.slots,this.2.2.2.2.2.2.2.2.1,this.2.2.2.2.2.2.2.2.2.1,this.2.2.2.2.2.2.2.2.2.2.1,this.2.2.2.2.2.2.2.2.2.2.2.1,this.2.2.2.2.2.2.2.2.2.2.2.2,this.1,by omega⟩
theorem c9(g:G S m){s:Nat}(hs:s<S.Fq):(S.sl s).Ft<=9:=by
 obtain⟨X,hm,h⟩:=g.J9;exact(h.sl s hs).c9
theorem JO(g:G S m){a s i:Nat}(ha:S.At a s i):a≠0/\a<200000:=by
 obtain⟨X,hm,h⟩:=g.J9;have h1:=h.MV hm ha;have h2:=h.Hk hm;omega
theorem FV(g:G S m){a:Nat}{x:Ob}(hx:S.ob a=some x):a≠0/\a<200000:=by
 obtain⟨s,i,ha,_⟩:=g.wf.ob a x hx;exact g.JO ha
theorem inj(g:G S m){a s i s' i':Nat}(h:S.At a s i)(h':S.At a s' i'):s=s'/\i=i':=h.inj h' (g.c9 h.1) (g.c9 h'.1)
theorem PY(g:G S m){a s i:Nat}{x:Ob}(hx:S.ob a=some x)(ha:S.At a s i):a∉(S.sl s).free/\x.b.Ft=(S.sl s).Ft/\cX x:=by
 obtain⟨X,hm,h⟩:=g.J9;exact g.wf.PY h hx ha
theorem R5(g:G S m)(i:Nat)(hi:i<S.slots):S.slot i<4294967296:=by
 by_cases h:S.slot i=0
 ·omega
 ·obtain⟨x,hx⟩:=g.ix.there i hi h;have:=(g.FV hx).2;omega
theorem Hh(g:G S m){f:Nat}(hf:f<21)(h3:f<3\/13<=f):m.root f=some (S.root f):=by
 obtain⟨X,hm,h⟩:=g.J9;rw[CN hm hf h3,h.root f h3 hf]
theorem GJ(g:G S m){f v:Nat}(hf:f<21)(h3:f<3\/13<=f)(hv:v<256^Mm.Gl f):∃m',m.FG f v=some m'/\G {S with root:=Fv S.root f v} m':=by
 obtain⟨X,hm,h⟩:=g.J9;obtain⟨m',e,h1⟩:=vF hm hf h3 hv;refine⟨m',e,⟨_,h1,h.Fq,h.slots,λq h3 hq=> ?_,h.slot,λs hs=> ?_⟩,⟨g.wf.nodup,g.wf.Nr,g.wf.lt,g.wf.ob⟩,⟨g.ix.rh,g.ix.there⟩⟩
 ·show Fv X.root f v q=Fv S.root f v q;unfold Fv;split
  ·rfl
  ·exact h.root q h3 hq
 ·have:=h.sl s hs;exact⟨this.c9,this.Ft,this.live,this.free,this.ln,this.z,this.b,this.p⟩
theorem Te(g:G S m){a:Nat}{x:Ob}(hx:S.ob a=some x){f:Nat}(hf:f<12):im a f m=some ((aT x.b).getD f 0):=by
 obtain⟨X,hm,h⟩:=g.J9;exact CP h hm g.wf hx hf
theorem U5(g:G S m){a:Nat}{x:Ob}(hx:S.ob a=some x):da a m=some (x.b,0):=by
 obtain⟨X,hm,h⟩:=g.J9;exact tC h hm g.wf hx
theorem getB0(g:G S m):da 0 m=some ({},30):=by
 obtain⟨X,hm,h⟩:=g.J9;exact AK h hm
theorem tag(g:G S m){a t:Nat}{x:Ob}(hx:S.ob a=some x)(ht:x.b.tag=t):eD t a m=some x.b:=by
 obtain⟨X,hm,h⟩:=g.J9;subst ht;exact EM h hm g.wf hx
theorem aaa(g:G S m){a:Nat}{x:Ob}(hx:S.ob a=some x):eZ a m=some ():=by
 obtain⟨X,hm,h⟩:=g.J9;exact ie h hm g.wf hx
theorem data(g:G S m){a:Nat}{x:Ob}(hx:S.ob a=some x)(h1:1<=x.d.length):dC (a+hlen x.b.tag) x.d.length 5 m=some x.d:=by
 obtain⟨X,hm,h⟩:=g.J9;exact D5 h hm g.wf hx h1
theorem put(g:G S m){m':Mm}{a:Nat}{x y:Ob}(hx:S.ob a=some x)(hr:NM {S with ob:=Fv S.ob a (some y)} m')(hy:cX y)(hc:y.b.Ft=x.b.Ft)(hh:y.b.hash=x.b.hash):G {S with ob:=Fv S.ob a (some y)} m':=by
 refine⟨hr,⟨g.wf.nodup,g.wf.Nr,g.wf.lt,λb z hz=> ?_⟩,g.ix.congr rfl rfl λb z hz _=> ?_⟩
 ·by_cases e:b=a
  ·subst e;have Js:Fv S.ob b (some y) b=some z:=hz;rw[ak]at Js;cases Js;obtain⟨s,i,h1,h2,h3,_⟩:=g.wf.ob b x hx;exact⟨s,i,h1,h2,hc.trans h3,hy⟩
  ·have Js:Fv S.ob a (some y) b=some z:=hz;rw[af _ _ e]at Js;exact g.wf.ob b z Js
 ·by_cases e:b=a
  ·subst e;rw[hx]at hz;cases hz;exact⟨y,ak _ _ _,hh⟩
  ·exact⟨z,(af _ _ e).trans hz,rfl⟩
theorem R6(g:G S m){a:Nat}{x:Ob}(hx:S.ob a=some x){f v:Nat}(hf:f<12)(hw:(FO x.b.tag f).2≠0){b':Bk}(ht:b'.tag=x.b.tag)(hc:b'.Ft=x.b.Ft)(hh:b'.hash=x.b.hash)(OQ:cX {x with b:=b'})
  (hv:(aT b').getD f 0=v) (hn:∀q,q<12->q≠f->(aT b').getD q 0=(aT x.b).getD q 0):∃m',bE a f v m=some m'/\G {S with ob:=Fv S.ob a (some {x with b:=b'})} m':=by
 obtain⟨X,hm,h⟩:=g.J9;obtain⟨m',e,hr⟩:=CR h hm g.wf hx hf hw ht hc OQ hv hn;exact⟨m',e,g.put hx hr OQ hc hh⟩
theorem putB(g:G S m){a:Nat}{x y:Ob}(hx:S.ob a=some x)(hy:cX y)(ht:y.b.tag=x.b.tag)(hc:y.b.Ft=x.b.Ft)(hh:y.b.hash=x.b.hash)(hd:y.d=x.d):∃m',gk a y.b m=some m'/\G {S with ob:=Fv S.ob a (some y)} m':=by
 obtain⟨X,hm,h⟩:=g.J9;obtain⟨s,i,ha,GF,GI,F4⟩:=g.wf.ob a x hx;obtain⟨m',e,hr⟩:=yH h hm ha GF hy (hc.trans GI) λo h1 h2=>by
  rw[Fw.LN GF hx];unfold bz;rw[ht]at h1⊢;rw[if_neg (by omega),if_neg (by omega),hd]
 exact⟨m',e,g.put hx hr hy hc hh⟩
theorem lay(g:G S m){m':Mm}{a s i:Nat}(ha:S.At a s i)(hf:a∉(S.sl s).free)(hn:¬S.has a){y:Ob}(hr:NM {S with ob:=Fv S.ob a (some y)} m')(hy:cX y)(hc:y.b.Ft=(S.sl s).Ft):G {S with ob:=Fv S.ob a (some y)} m':=by
 refine⟨hr,⟨g.wf.nodup,g.wf.Nr,g.wf.lt,λb z hz=> ?_⟩,g.ix.congr rfl rfl λb z hz hh=> ?_⟩
 ·by_cases e:b=a
  ·subst e;have Js:Fv S.ob b (some y) b=some z:=hz;rw[ak]at Js;cases Js;exact⟨s,i,ha,hf,hc,hy⟩
  ·have Js:Fv S.ob a (some y) b=some z:=hz;rw[af _ _ e]at Js;exact g.wf.ob b z Js
 ·have e:b≠a:=λe=>hn (by rw[<-e];exact hh);exact⟨z,(af _ _ e).trans hz,rfl⟩
theorem layB(g:G S m){a s i:Nat}(ha:S.At a s i)(hf:a∉(S.sl s).free)(hn:¬S.has a)(ho:S.ob a=none){y:Ob}(hy:cX y)(hc:y.b.Ft=(S.sl s).Ft)(hd:∀j,(y.d.getD j 0)=0):∃m',gk a y.b m=some m'/\G {S with ob:=Fv S.ob a (some y)} m':=by
 obtain⟨X,hm,h⟩:=g.J9;obtain⟨m',e,hr⟩:=yH h hm ha hf hy hc λo h1 h2=>by
  rw[Fw.PW hf ho];unfold bz;rw[if_neg (by omega),hd];rfl
 exact⟨m',e,g.lay ha hf hn hr hy hc⟩
theorem write(g:G S m){a:Nat}{x:Ob}(hx:S.ob a=some x){l:List UInt8}(h1:1<=l.length)(hl:l.length=x.d.length):∃m',cV (a+hlen x.b.tag) 5 l m=some m'/\G {S with ob:=Fv S.ob a (some {x with d:=l})} m':=by
 obtain⟨X,hm,h⟩:=g.J9;obtain⟨s,i,ha,GF,GI,F4⟩:=g.wf.ob a x hx;obtain⟨m',e,hr⟩:=KF h hm g.wf hx h1 hl;exact⟨m',e,g.put hx hr ⟨F4.right,F4.tag,F4.used,F4.name,F4.next,F4.prev,F4.refs,F4.hash,F4.FB,F4.typ,by show l.length=_;rw[hl];exact F4.len,by show _+l.length<=_;rw[hl];exact F4.fit⟩ rfl rfl⟩
theorem whole(g:G S m){a:Nat}{x:Ob}(hx:S.ob a=some x):dC a (ae x.b.Ft) 5 m=some (kF x (ae x.b.Ft)):=by
 obtain⟨X,hm,h⟩:=g.J9;exact CT h hm g.wf hx
theorem fill(g:G S m){a s i:Nat}(ha:S.At a s i)(hf:a∉(S.sl s).free)(hn:¬S.has a){y:Ob}(hy:cX y)(hc:y.b.Ft=(S.sl s).Ft):∃m',cV a 5 (kF y (ae y.b.Ft)) m=some m'/\G {S with ob:=Fv S.ob a (some y)} m':=by
 obtain⟨X,hm,h⟩:=g.J9;obtain⟨m',e,hr⟩:=D6 h hm ha hf hy hc;exact⟨m',e,g.lay ha hf hn hr hy hc⟩
theorem blank(g:G S m){a s i:Nat}(ha:S.At a s i)(hf:a∉(S.sl s).free)(hn:S.ob a=none):fG a (S.sl s).Ft m=some ():=by
 obtain⟨X,hm,h⟩:=g.J9;exact CU h hm ha hf hn
theorem Ji(g:G S m){a:Nat}(ha:S.has a)(G6:a≠0)(is:Nat->Option Bool)(ht:is a=some true)(hf:∀v,v≠0->v≠a->S.has v->is v=some false){q:Nat}(hq:q=S.hash a):eN q is m=some a:=by
 obtain⟨X,hm,h⟩:=g.J9;obtain⟨i,hi,rfl⟩:=ha;refine Go.FC.Ji h hm g.wf g.ix hi G6 is ht (λj hj h0 hne=>hf _ h0 (λe=>hne (g.ix.rh.inj j i hj hi h0 e)) ⟨j,hj,rfl⟩) ?_;rw[hq];rfl
theorem Jj(g:G S m)(is:Nat->Option Bool)(hf:∀v,v≠0->S.has v->is v=some false)(q:Nat):eN q is m=some 0:=by
 obtain⟨X,hm,h⟩:=g.J9;exact Go.FC.Jj h hm g.wf g.ix is (λj hj h0=>hf _ h0 ⟨j,hj,rfl⟩) q
theorem Ru(g:G S m){m':Mm}{T:Nat->Nat}(hr:NM {S with slot:=T} m')(hx:Ix {S with slot:=T}):G {S with slot:=T} m':=⟨hr,⟨g.wf.nodup,g.wf.Nr,g.wf.lt,g.wf.ob⟩,hx⟩
theorem U6(g:G S m){a:Nat}{x:Ob}(hx:S.ob a=some x)(hn:¬S.has a)(he:S.has 0):∃m' T,iw a m=some m'/\G {S with slot:=T} m'/\∀v,v≠0->(Fw.has {S with slot:=T} v↔v=a\/S.has v):=by
 obtain⟨X,hm,h⟩:=g.J9;have:=g.FV hx;obtain⟨m',T,e,hr,hi,hv⟩:=AM h hm g.wf g.ix hx hn he (by omega) this.1 g.R5;exact⟨m',T,e,g.Ru hr hi,hv⟩
theorem aab(g:G S m){a:Nat}(ha:S.has a)(G6:a≠0):∃m' T,fa a m=some m'/\G {S with slot:=T} m'/\∀v,v≠0->(Fw.has {S with slot:=T} v↔v≠a/\S.has v):=by
 obtain⟨X,hm,h⟩:=g.J9;obtain⟨m',T,e,hr,hi,hv⟩:=AN h hm g.wf g.ix ha G6 g.R5;exact⟨m',T,e,g.Ru hr hi,hv⟩
theorem aac(g:G S m){a b:Nat}(ha:S.has a)(G6:a≠0)(hb:¬S.has b){y:Ob}(hy:S.ob b=some y)(he:S.hash a=S.hash b):∃m' T,jW a b m=some m'/\G {S with slot:=T} m'/\∀v,v≠0->(Fw.has {S with slot:=T} v↔v=b\/v≠a/\S.has v):=by
 obtain⟨X,hm,h⟩:=g.J9;have:=g.FV hy;obtain⟨m',T,e,hr,hi,hv⟩:=AO h hm g.wf g.ix ha G6 hb this.1 (by omega) hy he;exact⟨m',T,e,g.Ru hr hi,hv⟩
theorem give(g:G S m){a s i:Nat}(ha:S.At a s i)(hf:a∉(S.sl s).free)(Km:S.out s=false)(hn:¬S.has a):∃m',jf a m=some m'/\G (S.Gi s a) m':=by
 obtain⟨X,hm,h⟩:=g.J9;obtain⟨m',e,hr⟩:=D8 h hm g.wf ha hf Km;have IY:=g.c9 ha.1;have hc:=ha.c IY;refine⟨m',e,hr,?_,?_⟩
 ·unfold Fw.Gi;by_cases c:(S.sl s).free.length+1=ai (S.sl s).Ft
  ·rw[if_pos c];have hall:∀j,j<ai (S.sl s).Ft->S.ba s j∈a::(S.sl s).free:=λj hj=>by
    refine pZ (λj=>S.ba s j) (ai (S.sl s).Ft) (a::(S.sl s).free) (List.nodup_cons.2 ⟨hf,g.wf.nodup s ha.1⟩) (λb hb=> ?_) (by rw[List.length_cons];omega) j hj;rcases List.mem_cons.1 hb with e|e
    ·exact⟨i,ha.2.1,e.trans ha.2.2⟩
    ·obtain⟨j,hj⟩:=g.wf.Nr s ha.1 b e;exact⟨j,hj.2.1,hj.2.2⟩
   have GG:∀b t j,t≠s->(S.At b t j↔Fw.At {S.FY s 0 []with ob:=Fv S.ob a none} b t j):=λb t j ht=>by
    have e1:(Fw.sl {S.FY s 0 []with ob:=Fv S.ob a none} t)=S.sl t:=S.Gb 0 [] ht;unfold Fw.At Fw.ba;rw[e1];rfl
   refine⟨λt ht=> ?_,λt ht b hb=> ?_,λt ht h0=> ?_,λb z hz=> ?_⟩
   ·by_cases q:t=s
    ·subst q;show((S.FY t 0 []).sl t).free.Nodup;rw[S.Gm];exact List.nodup_nil
    ·show((S.FY s 0 []).sl t).free.Nodup;rw[S.Gb _ _ q];exact g.wf.nodup t ht
   ·by_cases q:t=s
    ·subst q;have MI:b∈((S.FY t 0 []).sl t).free:=hb;rw[S.Gm]at MI;cases MI
    ·have MI:b∈((S.FY s 0 []).sl t).free:=hb;rw[S.Gb _ _ q]at MI;obtain⟨j,hj⟩:=g.wf.Nr t ht b MI;exact⟨j,(GG b t j q).1 hj⟩
   ·by_cases q:t=s
    ·subst q;have Yx:((S.FY t 0 []).sl t).Ft≠0:=h0;rw[S.Gm]at Yx;exact absurd rfl Yx
    ·show((S.FY s 0 []).sl t).free.length<ai ((S.FY s 0 []).sl t).Ft;have Yx:((S.FY s 0 []).sl t).Ft≠0:=h0;rw[S.Gb _ _ q]at Yx⊢;exact g.wf.lt t ht Yx
   ·have Js:Fv S.ob a none b=some z:=hz;by_cases e:b=a
    ·rw[e,ak]at Js;cases Js
    ·rw[af _ _ e]at Js;obtain⟨t,j,hj,h1,h2,h3⟩:=g.wf.ob b z Js;have q:t≠s:=λq=>by
      subst q;have:=hall j hj.2.1;rw[<-hj.2.2]at this;rcases List.mem_cons.1 this with z|z
      ·exact e z
      ·exact h1 z
     refine⟨t,j,(GG b t j q).1 hj,?_,?_,h3⟩
     ·show b∉((S.FY s 0 []).sl t).free;rw[S.Gb _ _ q];exact h1
     ·show _=((S.FY s 0 []).sl t).Ft;rw[S.Gb _ _ q];exact h2
  ·rw[if_neg c];have FR:=g.wf.lt s ha.1 (by omega);have GG:∀b t j,S.At b t j↔Fw.At {S.FD s (a::(S.sl s).free)with ob:=Fv S.ob a none} b t j:=λb t j=>(S.GR s _ b t j).symm;refine⟨λt ht=> ?_,λt ht b hb=> ?_,λt ht h0=> ?_,λb z hz=> ?_⟩
   ·show((S.FD s (a::(S.sl s).free)).sl t).free.Nodup;by_cases q:t=s
    ·subst q;rw[S.FX];exact List.nodup_cons.2 ⟨hf,g.wf.nodup t ht⟩
    ·rw[S.FU _ q];exact g.wf.nodup t ht
   ·have MI:b∈((S.FD s (a::(S.sl s).free)).sl t).free:=hb;by_cases q:t=s
    ·subst q;rw[S.FX]at MI;rcases List.mem_cons.1 MI with e|e
     ·exact⟨i,(GG b t i).1 (by rw[e];exact ha)⟩
     ·obtain⟨j,hj⟩:=g.wf.Nr t ht b e;exact⟨j,(GG b t j).1 hj⟩
    ·rw[S.FU _ q]at MI;obtain⟨j,hj⟩:=g.wf.Nr t ht b MI;exact⟨j,(GG b t j).1 hj⟩
   ·have Yx:((S.FD s (a::(S.sl s).free)).sl t).Ft≠0:=h0;show((S.FD s (a::(S.sl s).free)).sl t).free.length<ai ((S.FD s (a::(S.sl s).free)).sl t).Ft;rw[S.Gr]at Yx⊢;by_cases q:t=s
    ·subst q;rw[S.FX];show(a::(S.sl t).free).length<_;rw[List.length_cons];omega
    ·rw[S.FU _ q];exact g.wf.lt t ht Yx
   ·have Js:Fv S.ob a none b=some z:=hz;by_cases e:b=a
    ·rw[e,ak]at Js;cases Js
    ·rw[af _ _ e]at Js;obtain⟨t,j,hj,h1,h2,h3⟩:=g.wf.ob b z Js;refine⟨t,j,(GG b t j).1 hj,?_,?_,h3⟩
     ·show b∉((S.FD s (a::(S.sl s).free)).sl t).free;by_cases q:t=s
      ·subst q;rw[S.FX];show b∉a::(S.sl t).free;rw[List.mem_cons];exact λz=>z.elim e h1
      ·rw[S.FU _ q];exact h1
     ·show _=((S.FD s (a::(S.sl s).free)).sl t).Ft;rw[S.Gr];exact h2
 ·have Pe:∀b,b≠a->(S.Gi s a).ob b=S.ob b:=λb hb=>by
   unfold Fw.Gi;split
   ·exact af _ _ hb
   ·exact af _ _ hb
  have e1:(S.Gi s a).slots=S.slots:=by unfold Fw.Gi;split<;>rfl
  have e2:(S.Gi s a).slot=S.slot:=by unfold Fw.Gi;split<;>rfl
  refine g.ix.congr e1 e2 λb z hz hh=> ?_;have e:b≠a:=λe=>hn (by rw[<-e];exact hh);exact⟨z,(Pe b e).trans hz,rfl⟩
end G
end Go.FC
namespace Go.FC
theorem GR{S:Fw}{s t i a:Nat}{l:List Nat}:(S.FD s l).At a t i↔S.At a t i:=by
 unfold Fw.At Fw.ba;rw[S.Gr];exact Iff.rfl
theorem qi{S:Fw}{s t i a c:Nat}{l:List Nat}(h:t≠s):(S.FY s c l).At a t i↔S.At a t i:=by
 unfold Fw.At Fw.ba;rw[S.Gb c l h];exact Iff.rfl
namespace G
variable{S:Fw}{m:Mm}
theorem JN(g:G S m){c s:Nat}(GN:1<=c)(IY:c<=9)(hf:S.fst c=s+1):
  ∃a l m' i,(S.sl s).free=a::l/\(S.sl s).Ft=c/\dd c m=some ((a,0),m')/\G (S.FD s l) m'/\S.ob a=none/\S.At a s i:=by
 obtain⟨X,hm,h⟩:=g.J9;obtain⟨hs,hl,_⟩:=jM hf;obtain⟨_,hc,_⟩:=sm hl GN;obtain⟨a,l,m',e,ht,hr⟩:=Go.FC.JN h hm g.wf GN IY hf;obtain⟨i,hi⟩:=g.wf.Nr s hs a (by rw[e];simp);refine⟨a,l,m',i,e,hc,ht,⟨hr,⟨?_,?_,?_,?_⟩,g.ix.congr rfl rfl λb x hx _=>⟨x,hx,rfl⟩⟩,g.wf.N9 h hs (by rw[e];simp),hi⟩
 ·intro t ht;by_cases q:t=s
  ·subst q;rw[S.FX];have:=g.wf.nodup t hs;rw[e]at this;exact(List.nodup_cons.1 this).2
  ·rw[S.FU l q];exact g.wf.nodup t ht
 ·intro t ht b hb;have FF:b∈(S.sl t).free:=by
   by_cases q:t=s
   ·subst q;rw[S.FX]at hb;rw[e];exact List.mem_cons_of_mem _ hb
   ·rwa [S.FU l q]at hb
  obtain⟨j,hj⟩:=g.wf.Nr t ht b FF;exact⟨j,GR.2 hj⟩
 ·intro t ht;rw[S.Gr];intro h0;have:=g.wf.lt t ht h0;by_cases q:t=s
  ·subst q;rw[S.FX];rw[e,List.length_cons]at this;show l.length<_;omega
  ·rw[S.FU l q];exact this
 ·intro b x hx;obtain⟨t,j,h1,h2,h3,h4⟩:=g.wf.ob b x hx;refine⟨t,j,GR.2 h1,?_,by rw[S.Gr];exact h3,h4⟩;by_cases q:t=s
  ·subst q;rw[S.FX];rw[e]at h2;exact λk=>h2 (List.mem_cons_of_mem _ k)
  ·rw[S.FU l q];exact h2
theorem MW(g:G S m){c s:Nat}(GN:1<=c)(IY:c<=9)(hf:S.fst c=0)(JG:S.fst 0=s+1):
  ∃m',s<S.Fq/\(S.sl s).Ft=0/\dd c m=some ((S.sa s,0),m')/\G (S.FY s c (S.blocks s c).tail) m'/\S.ob (S.sa s)=none/\(S.FY s c (S.blocks s c).tail).At (S.sa s) s 0/\S.sa s∉(S.blocks s c).tail:=by
 obtain⟨X,hm,h⟩:=g.J9;obtain⟨hs,hl,_⟩:=jM JG;obtain⟨_,hc⟩:=sn hl;obtain⟨m',ht,hr⟩:=Go.FC.MW h hm g.wf GN IY hf JG;obtain⟨z1,z2,z3,z4,z5,z6,z7,z8⟩:=Nq c GN IY;obtain⟨n,hn⟩:∃n,ai c=n+1:=⟨ai c-1,by omega⟩;have Hb:S.blocks s c=S.sa s::bL (S.sa s) (ae c) 1 n:=by
  unfold Fw.blocks;rw[hn,bL,Nat.zero_mul,Nat.add_zero]
 have hnd:(S.blocks s c).Nodup:=ic (by omega) _ _;have GI:((S.FY s c (S.blocks s c).tail).sl s).Ft=c:=by rw[S.Gm]
 have GF:((S.FY s c (S.blocks s c).tail).sl s).free=(S.blocks s c).tail:=by rw[S.Gm]
 have GG:∀i,i<ai c->(S.FY s c (S.blocks s c).tail).At (S.sa s+i*ae c) s i:=λi hi=>⟨hs,by rw[GI];exact hi,by unfold Fw.ba;rw[GI];rfl⟩;have Jy:∀b x,S.ob b=some x->∃t j,S.At b t j/\t≠s/\b∉(S.sl t).free/\x.b.Ft=(S.sl t).Ft/\cX x:=λb x hx=>by
  obtain⟨t,j,h1,h2,h3,h4⟩:=g.wf.ob b x hx;refine⟨t,j,h1,λq=> ?_,h2,h3,h4⟩;subst q;have:=h1.2.1;rw[hc,Lv.2]at this;omega
 have VF:S.sa s∉(S.blocks s c).tail:=by
  rw[Hb]at hnd⊢;exact(List.nodup_cons.1 hnd).1
 refine⟨m',hs,hc,ht,⟨hr,⟨?_,?_,?_,?_⟩,g.ix.congr rfl rfl λb x hx _=>⟨x,hx,rfl⟩⟩,?_,by have:=GG 0 (by omega);rwa [Nat.zero_mul,Nat.add_zero]at this,VF⟩
 ·intro t ht;by_cases q:t=s
  ·subst q;rw[GF,Hb];rw[Hb]at hnd;exact(List.nodup_cons.1 hnd).2
  ·rw[S.Gb c _ q];exact g.wf.nodup t ht
 ·intro t ht b hb;by_cases q:t=s
  ·subst q;rw[GF,Hb,List.tail_cons]at hb;obtain⟨j,_,j2,e⟩:=(iO _ _ _).1 hb;exact⟨j,by rw[e];exact GG j (by omega)⟩
  ·rw[S.Gb c _ q]at hb;obtain⟨j,hj⟩:=g.wf.Nr t ht b hb;exact⟨j,(qi q).2 hj⟩
 ·intro t ht h0;by_cases q:t=s
  ·subst q;rw[GF,GI,List.length_tail];unfold Fw.blocks;rw[lF];omega
  ·rw[S.Gb c _ q]at h0⊢;exact g.wf.lt t ht h0
 ·intro b x hx;obtain⟨t,j,h1,h2,h3,h4,h5⟩:=Jy b x hx;exact⟨t,j,(qi h2).2 h1,by rw[S.Gb c _ h2];exact h3,by rw[S.Gb c _ h2];exact h4,h5⟩
 ·cases hx:S.ob (S.sa s)with
  |none=>rfl
  |some x=>
   obtain⟨t,j,h1,h2,_⟩:=Jy _ x hx;exfalso;have h9:=g.c9 h1.1;have h6:=h1.R4 h9;have h7:=h1.c h9;have h8:=(Nq _ h7 h9).1;obtain⟨z,hz⟩:=Fp (ae (S.sl t).Ft);rw[<-hz]at h6 h8;obtain⟨B,hB⟩:=Fp S.base;have e1:S.sa s=B+s*1024:=by rw[hB];rfl
   have e2:S.sa t=B+t*1024:=by rw[hB];rfl
   rw[e1,e2]at h6;exact h2 (by omega)
theorem Lw(g:G S m){c:Nat}(GN:1<=c)(IY:c<=9)(hf:S.fst c=0)(JG:S.fst 0=0):dd c m=some ((0,5),m):=by
 obtain⟨X,hm,h⟩:=g.J9;exact Go.FC.Lw h hm GN IY hf JG
end G
end Go.FC
namespace Go.FC
open Go.FP Go.Fy Go.Fz
def hN:List (List UInt8)->Nat
 | []=>2166136261
 |l::r=>cE (hN r) l
def Jk(ob:Nat->Option Ob)(a:Nat):Prop:=a=0\/∃y,ob a=some y/\y.b.tag=2
structure Hu(ob:Nat->Option Ob)(nm:Nat->List (List UInt8)):Prop where
 z:nm 0= []
 o0:ob 0=none
 node:∀a x,ob a=some x->x.b.tag=2->nm a=x.d::nm x.b.name/\FI x.d=x.d/\x.b.hash=hN (nm a)/\aI (nm a)=0
 Jt:∀a x,ob a=some x->Jk ob x.b.name
 un:∀a x a' x',ob a=some x->x.b.tag=2->ob a'=some x'->x'.b.tag=2->nm a=nm a'->a=a'
 VX:∀a x,ob a=some x->x.b.tag=1->x.b.hash=sG (hN (nm x.b.name)) x.b.typ/\(aP x.d).2=0
 ue:∀a x a' x',ob a=some x->x.b.tag=1->ob a'=some x'->x'.b.tag=1->x.b.name=x'.b.name->x.b.typ=x'.b.typ->a=a'
def Hs(S:Fw):Prop:=∀a,a≠0->(S.has a↔∃x,S.ob a=some x)
theorem C4(l:List UInt8):FI (FI l)=FI l:=by
 unfold FI;rw[List.map_map];congr 1;funext b;have:∀n,n<256->(kD ∘ kD) (UInt8.ofNat n)=kD (UInt8.ofNat n):=by decide+kernel
 have h:=this b.toNat b.toNat_lt
 rwa [UInt8.ofNat_toNat]at h
namespace Hu
variable{ob:Nat->Option Ob}{nm:Nat->List (List UInt8)}{S:Fw}{m:Mm}
theorem inj(n:Hu ob nm){a a':Nat}(h:Jk ob a)(h':Jk ob a')(e:nm a=nm a'):a=a':=by
 rcases h with rfl|⟨x,hx,ht⟩
 ·rcases h' with rfl|⟨x',GD,Np⟩
  ·rfl
  ·have:=(n.node a' x' GD Np).1;rw[<-e,n.z]at this;cases this
 ·rcases h' with rfl|⟨x',GD,Np⟩
  ·have:=(n.node a x hx ht).1;rw[e,n.z]at this;cases this
  ·exact n.un a x a' x' hx ht GD Np e
theorem KJ(g:G S m)(n:Hu S.ob nm){a:Nat}(h:Jk S.ob a):iy a m=some (hN (nm a)):=by
 unfold iy;rcases h with rfl|⟨x,hx,ht⟩
 ·rw[if_pos rfl,n.z];rfl
 ·have h0:a≠0:=(g.FV hx).1;rw[if_neg h0,g.tag hx ht,Fj,(n.node a x hx ht).2.2.1]
theorem Oc(g:G S m){a:Nat}(h:Jk S.ob a):lP a m=some ():=by
 unfold lP;rcases h with rfl|⟨x,hx,ht⟩
 ·rw[g.getB0,Fj,if_pos (.inl rfl)]
 ·rw[g.U5 hx,Fj,if_pos (.inr ⟨rfl,ht⟩)]
theorem SU(g:G S m)(n:Hu S.ob nm){up:Nat}(hu:Jk S.ob up){l:List UInt8}{v:Nat}{x:Ob}(hx:S.ob v=some x):
  mH up l (cE (hN (nm up)) l) m v=some (decide (x.b.tag=2/\nm v=l::nm up)):=by
 obtain⟨s,i,_,_,_,F4⟩:=g.wf.ob v x hx;unfold mH;rw[g.U5 hx,Fj];dsimp only;by_cases h:x.b.tag≠2\/x.b.name≠up\/x.b.label≠l.length\/x.b.hash≠cE (hN (nm up)) l
 ·rw[if_pos h,decide_eq_false];rintro⟨ht,he⟩;obtain⟨q1,q2,q3,q4⟩:=n.node v x hx ht;rw[q1]at he;injection he with e1 e2;have e3:=n.inj (n.Jt v x hx) hu e2;have hlen:=F4.len;rw[if_neg (by omega)]at hlen;rcases h with h|h|h|h
  ·exact h ht
  ·exact h e3
  ·exact h (by rw[<-e1];exact hlen.symm)
  ·exact h (by rw[q3,q1,<-e1,<-e3];rfl)
 ·rw[if_neg h];have h2:x.b.tag=2/\x.b.name=up/\x.b.label=l.length/\x.b.hash=cE (hN (nm up)) l:=by
   refine⟨?_,?_,?_,?_⟩<;>exact Classical.byContradiction λk=>h (by simp[k])
  obtain⟨ht,PL,Mg,hh⟩:=h2;have Iu:=F4.len;rw[if_neg (by omega)]at Iu;have hr:=dy F4.right;rw[if_neg (by omega),if_neg (by omega)]at hr;have hd:=g.data hx (by omega);rw[show hlen x.b.tag=16 by unfold hlen;rw[if_neg (by omega)]]at hd;rw[Iu]at hd;rw[hd,Fj];refine congrArg some ?_;rw[decide_eq_decide];rw[(n.node v x hx ht).1,PL];constructor
  ·intro e;exact⟨ht,by rw[e]⟩
  ·rintro⟨_,e⟩;injection e
theorem PZ(g:G S m)(n:Hu S.ob nm)(hs:Hs S){up:Nat}(hu:Jk S.ob up){l:List UInt8}(hl:aG l=0):
  ∃d,mJ up l m=some d/\((d=0/\∀a x,S.ob a=some x->x.b.tag=2->nm a≠FI l::nm up)\/∃x,S.ob d=some x/\x.b.tag=2/\nm d=FI l::nm up):=by
 unfold mJ;rw[Oc g hu,Fj,if_neg (λk=>k hl),n.KJ g hu,Fj];have hp:=λv x (hx:S.ob v=some x)=>n.SU g hu (l:=FI l) hx;by_cases h:∃a x,S.ob a=some x/\x.b.tag=2/\nm a=FI l::nm up
 ·obtain⟨a,x,hx,ht,he⟩:=h;have h0:a≠0:=(g.FV hx).1;refine⟨a,g.Ji ((hs a h0).2 ⟨x,hx⟩) h0 _ (by rw[hp a x hx,decide_eq_true ⟨ht,he⟩]) (λv hv hne hh=> ?_) ?_,.inr ⟨x,hx,ht,he⟩⟩
  ·obtain⟨y,hy⟩:=(hs v hv).1 hh;rw[hp v y hy,decide_eq_false];rintro⟨k1,k2⟩;exact hne (n.un v y a x hy k1 hx ht (k2.trans he.symm))
  ·rw[Fw.Jh hx,(n.node a x hx ht).2.2.1,he];rfl
 ·refine⟨0,g.Jj _ (λv hv hh=> ?_) _,.inl ⟨rfl,λa x hx ht he=>h ⟨a,x,hx,ht,he⟩⟩⟩;obtain⟨y,hy⟩:=(hs v hv).1 hh;rw[hp v y hy,decide_eq_false];rintro⟨k1,k2⟩;exact h ⟨v,y,hy,k1,k2⟩
end Hu
end Go.FC
namespace Go.FC
open Go.FP Go.Fy Go.Fz
theorem bH{ls:List (List UInt8)}(h:aI ls=0):∀l∈ls,aG l=0:=by
 unfold aI at h;by_cases c:ls.all (λs=>aG s==0)=true
 ·intro l hl;have:=List.all_eq_true.1 c l hl;simpa using this
 ·rw[if_neg c]at h;cases h
namespace Hu
variable{nm:Nat->List (List UInt8)}{S:Fw}{m:Mm}
theorem IC(g:G S m)(n:Hu S.ob nm){a:Nat}{x:Ob}(hx:S.ob a=some x)(ht:x.b.tag=2):fc a m=some x.d:=by
 obtain⟨_,_,_,_,_,F4⟩:=g.wf.ob a x hx;have Iu:=F4.len;rw[if_neg (by omega)]at Iu;have hr:=dy F4.right;rw[if_neg (by omega),if_neg (by omega)]at hr;have hd:=g.data hx (by omega);rw[show hlen x.b.tag=16 by unfold hlen;rw[if_neg (by omega)],Iu]at hd;unfold fc;rw[g.tag hx ht,Fj,hd]
theorem P0(g:G S m)(n:Hu S.ob nm){a:Nat}(h:Jk S.ob a):kW a m=some ():=by
 unfold kW;rcases h with rfl|⟨x,hx,ht⟩
 ·rw[if_pos rfl]
 ·rw[if_neg (g.FV hx).1,n.IC g hx ht,Fj]
theorem Rv(g:G S m)(n:Hu S.ob nm){a typ:Nat}{v:Nat}{x:Ob}(hx:S.ob v=some x):
  jV a typ (sG (hN (nm a)) typ) m v=some (decide (x.b.tag=1/\x.b.name=a/\x.b.typ=typ)):=by
 unfold jV;rw[g.U5 hx,Fj];refine congrArg some ?_;rw[Bool.eq_iff_iff,decide_eq_true_eq];simp only [Bool.and_eq_true,Nat.beq_eq];constructor
 ·rintro⟨⟨⟨h1,h2⟩,h3⟩,_⟩;exact⟨h1,h2,h3⟩
 ·rintro⟨h1,h2,h3⟩;refine⟨⟨⟨h1,h2⟩,h3⟩,?_⟩;rw[(n.VX v x hx h1).1,h2,h3]
theorem P1(g:G S m)(n:Hu S.ob nm)(hs:Hs S){a:Nat}(hu:Jk S.ob a)(typ:Nat):
  ∃d,oI a typ m=some d/\((d=0/\∀v x,S.ob v=some x->x.b.tag=1->¬(x.b.name=a/\x.b.typ=typ))\/∃x,S.ob d=some x/\x.b.tag=1/\x.b.name=a/\x.b.typ=typ):=by
 unfold oI mM;rw[n.P0 g hu,Fj,n.KJ g hu,Fj,Fj];have hp:=λv x (hx:S.ob v=some x)=>n.Rv g (a:=a) (typ:=typ) hx;by_cases h:∃v x,S.ob v=some x/\x.b.tag=1/\x.b.name=a/\x.b.typ=typ
 ·obtain⟨v,x,hx,ht,h1,h2⟩:=h;have h0:v≠0:=(g.FV hx).1;refine⟨v,g.Ji ((hs v h0).2 ⟨x,hx⟩) h0 _ (by rw[hp v x hx,decide_eq_true ⟨ht,h1,h2⟩]) (λu Rl hne hh=> ?_) ?_,.inr ⟨x,hx,ht,h1,h2⟩⟩
  ·obtain⟨y,hy⟩:=(hs u Rl).1 hh;rw[hp u y hy,decide_eq_false];rintro⟨k1,k2,k3⟩;exact hne (n.ue u y v x hy k1 hx ht (k2.trans h1.symm) (k3.trans h2.symm))
  ·rw[Fw.Jh hx,(n.VX v x hx ht).1,h1,h2]
 ·refine⟨0,g.Jj _ (λv hv hh=> ?_) _,.inl ⟨rfl,λv x hx ht he=>h ⟨v,x,hx,ht,he.1,he.2⟩⟩⟩;obtain⟨y,hy⟩:=(hs v hv).1 hh;rw[hp v y hy,decide_eq_false];rintro⟨k1,k2,k3⟩;exact h ⟨v,y,hy,k1,k2,k3⟩
def Kn(ob:Nat->Option Ob)(nm:Nat->List (List UInt8))(ls:List (List UInt8))(r:Nat×Nat):Prop:=
 Jk ob r.1/\∃rest dn,ls=rest++dn/\nm r.1=dn.map FI/\r.2=dn.length/\(rest= []\/∃i l,rest=i++ [l]/\∀a x,ob a=some x->x.b.tag=2->nm a≠FI l::nm r.1)
theorem Od(g:G S m)(n:Hu S.ob nm)(hs:Hs S):∀(q:List (List UInt8)) (a k:Nat) (dn:List (List UInt8)),Jk S.ob a->nm a=dn.map FI->k=dn.length->(∀l∈q,aG l=0)->
  ∃r,dW m q a k=some r/\Kn S.ob nm (q.reverse++dn) r
 | [],a,k,dn,hu,hn,hk,_=>⟨(a,k),rfl,hu,[],dn,rfl,hn,hk,.inl rfl⟩
 |l::q,a,k,dn,hu,hn,hk,hq=>by
  obtain⟨d,hd,h⟩:=n.PZ g hs hu (hq l (by simp));rw[dW,hd,Fj];rcases h with⟨rfl,Jy⟩|⟨x,hx,ht,he⟩
  ·rw[if_pos rfl];exact⟨(a,k),rfl,hu,(l::q).reverse,dn,rfl,hn,hk,.inr ⟨q.reverse,l,by rw[List.reverse_cons],Jy⟩⟩
  ·rw[if_neg (g.FV hx).1];obtain⟨r,h1,h2⟩:=Od g n hs q d (k+1) (l::dn) (.inr ⟨x,hx,ht⟩) (by rw[he,hn];rfl) (by rw[hk];rfl) (λl' hl'=>hq l' (by simp[hl']));refine⟨r,h1,?_⟩;rw[List.reverse_cons,List.append_assoc];exact h2
theorem P2(g:G S m)(n:Hu S.ob nm)(hs:Hs S){ls:List (List UInt8)}(hl:aI ls=0):∃r,kV ls m=some r/\Kn S.ob nm ls r:=by
 obtain⟨r,h1,h2⟩:=n.Od g hs ls.reverse 0 0 [] (.inl rfl) (by rw[n.z];rfl) rfl (λl hl'=>bH hl l (by simpa using hl'));rw[List.reverse_reverse,List.append_nil]at h2;exact⟨r,h1,h2⟩
theorem Kn.all{ob:Nat->Option Ob}{ls:List (List UInt8)}{r:Nat×Nat}(h:Kn ob nm ls r)(hr:¬r.2<ls.length):nm r.1=ls.map FI:=by
 obtain⟨_,rest,dn,rfl,h1,h2,_⟩:=h;have:rest= []:=List.eq_nil_of_length_eq_zero (by rw[List.length_append]at hr;omega);rw[this,List.nil_append,h1]
theorem Kn.none{ob:Nat->Option Ob}{ls:List (List UInt8)}{r:Nat×Nat}(n:Hu ob nm)(h:Kn ob nm ls r)(hr:r.2<ls.length):∀a,Jk ob a->nm a≠ls.map FI:=by
 obtain⟨hu,rest,dn,rfl,h1,h2,h3⟩:=h;rcases h3 with rfl|⟨i,l,rfl,Jy⟩
 ·rw[List.nil_append,h2]at hr;exact absurd hr (Nat.lt_irrefl _)
 ·
  have up:∀(i:List (List UInt8)) (a:Nat),Jk ob a->nm a=(i++ [l]).map FI++nm r.1->False:=by
   intro i
   induction i with
   |nil=>
    intro a ha e;rcases ha with rfl|⟨x,hx,ht⟩
    ·rw[n.z]at e;simp at e
    ·exact Jy a x hx ht (by simpa using e)
   |cons y i ih=>
    intro a ha e;rcases ha with rfl|⟨x,hx,ht⟩
    ·rw[n.z]at e;simp at e
    ·have e2:=(n.node a x hx ht).1;rw[e]at e2;simp only [List.cons_append,List.map_cons,List.cons.injEq]at e2;exact ih x.b.name (n.Jt a x hx) e2.2.symm
  intro a ha e;exact up i a ha (by rw[e,h1,List.map_append])
theorem P3(g:G S m)(n:Hu S.ob nm)(hs:Hs S){ls:List (List UInt8)}(hl:aI ls=0)(typ:Nat):
  ∃d,mN ls typ m=some d/\((d=0/\∀v x,S.ob v=some x->x.b.tag=1->¬(nm x.b.name=ls.map FI/\x.b.typ=typ))\/∃x,S.ob d=some x/\x.b.tag=1/\nm x.b.name=ls.map FI/\x.b.typ=typ):=by
 obtain⟨r,h1,h2⟩:=n.P2 g hs hl;unfold mN;rw[h1,Fj];by_cases hr:r.2<ls.length
 ·rw[if_pos hr];exact⟨0,rfl,.inl ⟨rfl,λv x hx ht he=>h2.none n hr x.b.name (n.Jt v x hx) he.1⟩⟩
 ·rw[if_neg hr];have he:=h2.all hr;obtain⟨d,h3,h4⟩:=n.P1 g hs h2.1 typ;refine⟨d,h3,?_⟩;rcases h4 with⟨rfl,h5⟩|⟨x,hx,ht,h5,h6⟩
  ·exact .inl ⟨rfl,λv x hx ht k=>h5 v x hx ht ⟨n.inj (n.Jt v x hx) h2.1 (k.1.trans he.symm),k.2⟩⟩
  ·exact .inr ⟨x,hx,ht,by rw[h5,he],h6⟩
end Hu
end Go.FC
namespace Go.FC
open Go.FP Go.Fy Go.Fz
theorem KK:∀ls:List (List UInt8),(∀l∈ls,aG l=0)->2*ls.length+1<=FQ ls
 | [],_=>by simp[FQ]
 |l::r,h=>by
  have h1:=KK r λx hx=>h x (by simp[hx]);have h2:1<=l.length:=by
   have:=h l (by simp);unfold aG at this;by_cases c:l.length<1\/63<l.length
   ·rw[if_pos c]at this;cases this
   ·omega
  show 2*(r.length+1)+1<=l.length+1+FQ r;omega
theorem bQ{ls:List (List UInt8)}(h:aI ls=0):FQ ls<=255:=by
 unfold aI at h;by_cases c:ls.all (λs=>aG s==0)=true
 ·rw[if_pos c]at h;by_cases d:255<FQ ls
  ·rw[if_pos d]at h;cases h
  ·omega
 ·rw[if_neg c]at h;cases h
namespace Hu
variable{nm:Nat->List (List UInt8)}{S:Fw}{m:Mm}
theorem check(n:Hu S.ob nm){a:Nat}(h:Jk S.ob a):aI (nm a)=0:=by
 rcases h with rfl|⟨x,hx,ht⟩
 ·rw[n.z];rfl
 ·exact(n.node a x hx ht).2.2.2
theorem U7(g:G S m)(n:Hu S.ob nm):∀(k a:Nat),Jk S.ob a->(nm a).length<k->YH m k a=some (nm a)
 |0,a,_,h=>absurd h (by omega)
 |k+1,a,hu,h=>by
  rw[YH];rcases hu with rfl|⟨x,hx,ht⟩
  ·rw[if_pos rfl,n.z]
  ·have e:=(n.node a x hx ht).1;rw[e,List.length_cons]at h;rw[if_neg (g.FV hx).1,n.IC g hx ht,Fj,g.Te hx (by decide),Fj,show(aT x.b).getD 4 0=x.b.name from rfl,U7 g n k x.b.name (n.Jt a x hx) (by omega),Fj,e]
theorem U9(g:G S m)(n:Hu S.ob nm){a:Nat}(h:Jk S.ob a):mL a m=some (nm a):=by
 have hc:=g.NL;have h1:=KK (nm a) (bH (n.check h));have h2:=bQ (n.check h);unfold mL;rw[n.U7 g (m.slots+1) a h (by omega)];rcases h with rfl|⟨x,hx,ht⟩
 ·rw[if_pos rfl,Fj]
 ·rw[if_neg (g.FV hx).1,n.IC g hx ht,Fj]
theorem MY{p:List UInt8}(h:(aP p).2=0):1<=p.length:=by
 cases p with
 |nil=>exact absurd h (by decide)
 |cons a l=>simp
theorem R7(g:G S m)(n:Hu S.ob nm){a:Nat}{x:Ob}(hx:S.ob a=some x)(ht:x.b.tag=1):dC (a+32) x.b.size 5 m=some x.d:=by
 obtain⟨_,_,_,_,_,F4⟩:=g.wf.ob a x hx;have hl:=F4.len;rw[if_pos ht]at hl;have hd:=g.data hx (MY (n.VX a x hx ht).2);rw[show hlen x.b.tag=32 by unfold hlen;rw[if_pos ht],hl]at hd;exact hd
theorem Va(g:G S m)(n:Hu S.ob nm){a:Nat}{x:Ob}(hx:S.ob a=some x)(ht:x.b.tag=1):wA a m=some x.d:=by
 unfold wA;rw[g.tag hx ht,Fj,n.R7 g hx ht]
theorem Vb(g:G S m)(n:Hu S.ob nm){a:Nat}{x:Ob}(hx:S.ob a=some x)(ht:x.b.tag=1):sQ a m=some ⟨nm x.b.name,x.b.typ,(aP x.d).1,x.b.FB,x.b.used⟩:=by
 unfold sQ;have hp:=n.Jt a x hx;rw[g.tag hx ht,Fj,n.U9 g hp,Fj,if_neg (λk=>k (n.check hp)),n.R7 g hx ht,Fj,if_neg (λk=>k (n.VX a x hx ht).2)]
end Hu
variable{S:Fw}{m:Mm}
theorem kC(g:G S m){a:Nat}{x:Ob}(hx:S.ob a=some x)(ht:x.b.tag=1):kM a m=some (bM (S.root 16) x.b.FB):=by
 unfold kM Bb;rw[g.Hh (by decide) (.inr (by decide)),Fj,g.tag hx ht,Fj,Fj]
theorem Eb(g:G S m){a:Nat}{x:Ob}(hx:S.ob a=some x)(ht:x.b.tag=1):sR a m=some x.b.used:=by
 unfold sR;rw[g.tag hx ht,Fj]
end Go.FC
namespace Go.FC
def Ch(nx pv:Nat->Nat):List Nat->Prop
 | []=>True
 | [_]=>True
 |a::b::l=>(nx a=b/\pv b=a)/\Ch nx pv (b::l)
def Lx(nx pv:Nat->Nat)(r:List Nat):Prop:=Ch nx pv r/\(r≠ []->nx (r.getLastD 0)=r.headD 0/\pv (r.headD 0)=r.getLastD 0)
theorem Ch.congr{nx pv Vc Vd:Nat->Nat}:∀ {r:List Nat},Ch nx pv r->(∀x∈r.dropLast,Vc x=nx x)->(∀y∈r.tail,Vd y=pv y)->Ch Vc Vd r
 | [],_,_,_=>trivial
 | [_],_,_,_=>trivial
 |a::b::l,h,h1,h2=>⟨⟨(h1 a (by simp)).trans h.1.1,(h2 b (by simp)).trans h.1.2⟩,Ch.congr h.2 (λx hx=>h1 x (by simp[hx])) (λy hy=>h2 y (by simp at hy⊢;exact .inr hy))⟩
theorem Ch.append{nx pv:Nat->Nat}:∀ {r s:List Nat},Ch nx pv r->Ch nx pv s->(r≠ []->s≠ []->nx (r.getLastD 0)=s.headD 0/\pv (s.headD 0)=r.getLastD 0)->Ch nx pv (r++s)
 | [],s,_,h2,_=>h2
 | [a],[],_,_,_=>trivial
 | [a],b::s,_,h2,h3=>⟨h3 (by simp) (by simp),h2⟩
 |a::b::l,s,h1,h2,h3=>⟨h1.1,Ch.append (r:=b::l) h1.2 h2 λ_ hs=>by
   have:=h3 (by simp) hs;simpa using this⟩
theorem Ch.left{nx pv:Nat->Nat}:∀ {r s:List Nat},Ch nx pv (r++s)->Ch nx pv r
 | [],s,_=>trivial
 | [a],s,_=>trivial
 |a::b::l,s,h=>⟨h.1,Ch.left (r:=b::l) h.2⟩
theorem Ch.right{nx pv:Nat->Nat}:∀ {r s:List Nat},Ch nx pv (r++s)->Ch nx pv s
 | [],s,h=>h
 | [a],[],_=>trivial
 | [a],b::s,h=>h.2
 |a::b::l,s,h=>Ch.right (r:=b::l) h.2
theorem Ch.mid{nx pv:Nat->Nat}:∀ {r s:List Nat},Ch nx pv (r++s)->r≠ []->s≠ []->nx (r.getLastD 0)=s.headD 0/\pv (s.headD 0)=r.getLastD 0
 | [],s,_,h,_=>absurd rfl h
 | [a],[],_,_,h=>absurd rfl h
 | [a],b::s,h,_,_=>h.1
 |a::b::l,s,h,_,hs=>by
  have:=Ch.mid (r:=b::l) h.2 (by simp) hs;simpa using this
theorem ew{p q:List Nat}(hq:q≠ []):(p++q).getLastD 0=q.getLastD 0:=by
 rw[List.getLastD_eq_getLast?,List.getLastD_eq_getLast?,List.getLast?_append];cases h:q.getLast? with
 |none=>exact absurd (List.getLast?_eq_none_iff.1 h) hq
 |some v=>rfl
theorem Lx.rot{nx pv:Nat->Nat}{p q:List Nat}(h:Lx nx pv (p++q)):Lx nx pv (q++p):=by
 by_cases hp:p= []
 ·subst hp;simpa using h
 by_cases hq:q= []
 ·subst hq;simpa using h
 obtain⟨h1,h2⟩:=h;have hm:=h1.mid hp hq;have he:=h2 (by simp[hp]);have g1:(p++q).getLastD 0=q.getLastD 0:=ew hq;have g2:(p++q).headD 0=p.headD 0:=by cases p with|nil=>exact absurd rfl hp|cons a p=>rfl
 have g3:(q++p).getLastD 0=p.getLastD 0:=ew hp;have g4:(q++p).headD 0=q.headD 0:=by cases q with|nil=>exact absurd rfl hq|cons a q=>rfl
 rw[g1,g2]at he;exact⟨h1.right.append h1.left λ_ _=>he,λ_=>by rw[g3,g4];exact hm⟩
def G3(ob:Nat->Option Ob)(a:Nat):Nat:=match ob a with
 |some x=>x.b.next
 |none=>0
def Ii(ob:Nat->Option Ob)(a:Nat):Nat:=match ob a with
 |some x=>x.b.prev
 |none=>0
structure Rg(S:Fw)(ex:Nat)(r:List Nat):Prop where
 nd:r.Nodup
 mem:∀a,a∈r↔a≠ex/\∃x,S.ob a=some x/\x.b.tag=1
 cy:Lx (G3 S.ob) (Ii S.ob) r
 hd:S.root 13=r.headD 0
 bm:(r= []->S.root 14=0)/\(r≠ []->S.root 14∈r)
 ct:S.root 15=r.length
variable{S:Fw}{m:Mm}{ex:Nat}{r:List Nat}
theorem lG{a:Nat}{x:Ob}(h:S.ob a=some x):G3 S.ob a=x.b.next:=by unfold G3;rw[h]
theorem nI{a:Nat}{x:Ob}(h:S.ob a=some x):Ii S.ob a=x.b.prev:=by unfold Ii;rw[h]
theorem iS(g:G S m){a:Nat}{x:Ob}(h:S.ob a=some x):jg a m=some (G3 S.ob a):=by
 unfold jg;rw[g.Te h (by decide),lG h];rfl
theorem tD(g:G S m){a:Nat}{x:Ob}(h:S.ob a=some x):kL a m=some (Ii S.ob a):=by
 unfold kL;rw[g.Te h (by decide),nI h];rfl
namespace Rg
theorem obj(h:Rg S ex r){a:Nat}(ha:a∈r):∃x,S.ob a=some x/\x.b.tag=1:=((h.mem a).1 ha).2
theorem P4(g:G S m)(h:Rg S ex r):∀(q p:List Nat),r=p++q->iU m q.length (q.headD 0)=some q
 | [],p,_=>rfl
 | [a],p,e=>by
  obtain⟨x,hx,_⟩:=h.obj (a:=a) (by rw[e];simp);rw[List.length_singleton,iU,show [a].headD 0=a from rfl,iS g hx,Fj,iU];rfl
 |a::b::q,p,e=>by
  obtain⟨x,hx,_⟩:=h.obj (a:=a) (by rw[e];simp);have hc:=h.cy.1;rw[e]at hc;have hn:G3 S.ob a=b:=hc.right.1.1;rw[List.length_cons,iU,show(a::b::q).headD 0=a from rfl,iS g hx,Fj,hn];have:=P4 g h (b::q) (p++ [a]) (by rw[e];simp);rw[show(b::q).headD 0=b from rfl]at this;rw[this,Fj]
theorem aad(g:G S m)(h:Rg S ex r):gU m=some r:=by
 unfold gU;rw[g.Hh (by decide) (.inr (by decide)),Fj,g.Hh (by decide) (.inr (by decide)),Fj,h.hd,h.ct];exact h.P4 g r [] rfl
theorem ne0(g:G S m)(h:Rg S ex r){a:Nat}(ha:a∈r):a≠0/\a<200000:=by
 obtain⟨x,hx,_⟩:=h.obj ha;exact g.FV hx
theorem Ly(h:Rg S ex r){a:Nat}(ha:a∈r):G3 S.ob a∈r:=by
 obtain⟨p,q,e⟩:=List.append_of_mem ha;have hc:=h.cy;rw[e]at hc;cases q with
 |nil=>
  have:=(hc.2 (by simp)).1;rw[show(p++ [a]).getLastD 0=a by simp[List.getLastD_eq_getLast?]]at this;rw[this,e];cases p with
  |nil=>simp
  |cons b p=>simp
 |cons b q=>
  have:=hc.1.right.1.1;rw[this,e];simp
theorem Xk(g:G S m){a:Nat}{q:List Nat}(h:Rg S ex (a::q)):∃m',Vx 13 m=some (a,m')/\G {S with root:=Fv S.root 13 ((q++ [a]).headD 0)} m'/\Rg {S with root:=Fv S.root 13 ((q++ [a]).headD 0)} ex (q++ [a]):=by
 obtain⟨x,hx,_⟩:=h.obj (a:=a) (by simp);have hc:=Lx.rot (p:= [a]) (q:=q) h.cy;have hn:G3 S.ob a=(q++ [a]).headD 0:=by
  have h1:=h.cy;cases q with
  |nil=>exact(h1.2 (by simp)).1
  |cons b q=>exact h1.1.1.1
 have hm:=h.Ly (a:=a) (by simp);rw[hn]at hm;have FR:=(h.ne0 g hm).2;obtain⟨m',e,g'⟩:=g.GJ (f:=13) (v:=(q++ [a]).headD 0) (by decide) (.inr (by decide)) (by show _<256^4;omega);refine⟨m',?_,g',⟨?_,?_,hc,?_,?_,?_⟩⟩
 ·unfold Vx;rw[g.Hh (by decide) (.inr (by decide)),Fj,h.hd,show(a::q).headD 0=a from rfl,if_neg (g.FV hx).1,iS g hx,Fj,hn,e,Fj]
 ·have:=h.nd;rw[List.nodup_cons]at this;rw[List.nodup_append];exact⟨this.2,by simp,λb hb c KQ e2=>by simp at KQ;rw[e2,KQ]at hb;exact this.1 hb⟩
 ·intro b;rw[<-h.mem b];simp[or_comm]
 ·show Fv S.root 13 ((q++ [a]).headD 0) 13=_;exact ak _ _ _
 ·refine⟨λk=>by simp at k,λ_=> ?_⟩;show Fv S.root 13 ((q++ [a]).headD 0) 14∈_;rw[af _ _ (by decide)];have:=h.bm.2 (by simp);simp at this⊢;exact this.symm
 ·show Fv S.root 13 ((q++ [a]).headD 0) 15=_;rw[af _ _ (by decide),h.ct];simp
theorem Ve(g:G S m)(h:Rg S ex r)(hr:r≠ []):∃m',Vx 14 m=some (S.root 14,m')/\S.root 14∈r/\G {S with root:=Fv S.root 14 (G3 S.ob (S.root 14))} m'/\Rg {S with root:=Fv S.root 14 (G3 S.ob (S.root 14))} ex r:=by
 have hb:=h.bm.2 hr;obtain⟨x,hx,_⟩:=h.obj hb;have hm:=h.Ly hb;have FR:=(h.ne0 g hm).2;obtain⟨m',e,g'⟩:=g.GJ (f:=14) (v:=G3 S.ob (S.root 14)) (by decide) (.inr (by decide)) (by show _<256^4;omega);refine⟨m',?_,hb,g',⟨h.nd,h.mem,h.cy,?_,?_,?_⟩⟩
 ·unfold Vx;rw[g.Hh (by decide) (.inr (by decide)),Fj,if_neg (g.FV hx).1,iS g hx,Fj,e,Fj]
 ·show Fv S.root 14 (G3 S.ob (S.root 14)) 13=_;rw[af _ _ (by decide),h.hd]
 ·refine⟨λk=>absurd k hr,λ_=> ?_⟩;show Fv S.root 14 (G3 S.ob (S.root 14)) 14∈r;rw[ak];exact hm
 ·show Fv S.root 14 (G3 S.ob (S.root 14)) 15=_;rw[af _ _ (by decide),h.ct]
end Rg
end Go.FC
namespace Go.FC
def Ob.lk(x:Ob)(n p:Nat):Ob:= {x with b:= {x.b with next:=n,prev:=p}}
theorem vM(b:Bk)(n p:Nat)(ht:b.tag=1):aW {b with next:=n,prev:=p}=aW b:=by
 unfold aW;rw[show List.range 12= [0,1,2,3,4,5,6,7,8,9,10,11]from rfl];simp only [List.any_cons,List.any_nil,ht,aT,show(FO 1 5).2=4 from rfl,show(FO 1 6).2=4 from rfl,show Nat.beq 4 0=false from rfl,Bool.and_false];rfl
theorem vN{x:Ob}(h:cX x)(ht:x.b.tag=1){n p:Nat}(hn:n<4294967296)(hp:p<4294967296):cX (x.lk n p):=by
 refine⟨?_,h.tag,h.used,h.name,hn,hp,h.refs,h.hash,h.FB,h.typ,h.len,h.fit⟩;have:=h.right;unfold bn at this⊢;show(Nat.ble x.b.tag 2&&Nat.ble x.b.size 480&& !aW {x.b with next:=n,prev:=p}&&_)=true;rw[vM x.b n p ht];exact this
namespace G
variable{S:Fw}{m:Mm}
theorem OR(g:G S m){a v:Nat}{x:Ob}(hx:S.ob a=some x)(ht:x.b.tag=1)(hv:v<4294967296):∃m',bE a 5 v m=some m'/\G {S with ob:=Fv S.ob a (some (x.lk v x.b.prev))} m':=by
 obtain⟨_,_,_,_,_,F4⟩:=g.wf.ob a x hx;refine g.R6 hx (f:=5) (b':=(x.lk v x.b.prev).b) (by decide) (by rw[ht];decide) rfl rfl rfl (vN F4 ht hv F4.prev) rfl λq hq hn=> ?_;have:q=0\/q=1\/q=2\/q=3\/q=4\/q=6\/q=7\/q=8\/q=9\/q=10\/q=11:=by omega
 rcases this with rfl|rfl|rfl|rfl|rfl|rfl|rfl|rfl|rfl|rfl|rfl<;>rfl
theorem OS(g:G S m){a v:Nat}{x:Ob}(hx:S.ob a=some x)(ht:x.b.tag=1)(hv:v<4294967296):∃m',bE a 6 v m=some m'/\G {S with ob:=Fv S.ob a (some (x.lk x.b.next v))} m':=by
 obtain⟨_,_,_,_,_,F4⟩:=g.wf.ob a x hx;refine g.R6 hx (f:=6) (b':=(x.lk x.b.next v).b) (by decide) (by rw[ht];decide) rfl rfl rfl (vN F4 ht F4.next hv) rfl λq hq hn=> ?_;have:q=0\/q=1\/q=2\/q=3\/q=4\/q=5\/q=7\/q=8\/q=9\/q=10\/q=11:=by omega
 rcases this with rfl|rfl|rfl|rfl|rfl|rfl|rfl|rfl|rfl|rfl|rfl<;>rfl
end G
def Ka(ob ob':Nat->Option Ob):Prop:=∀a,match ob a with
 |none=>ob' a=none
 |some x=>∃n p,ob' a=some (x.lk n p)/\(x.b.tag≠1->n=x.b.next/\p=x.b.prev)
theorem Ka.refl(ob:Nat->Option Ob):Ka ob ob:=λa=>by
 cases h:ob a with
 |none=>rfl
 |some x=>exact⟨x.b.next,x.b.prev,rfl,λ_=>⟨rfl,rfl⟩⟩
theorem Ka.of{ob ob':Nat->Option Ob}(h:Ka ob ob'){a:Nat}{x:Ob}(hx:ob a=some x):∃n p,ob' a=some (x.lk n p)/\(x.b.tag≠1->n=x.b.next/\p=x.b.prev):=by
 have:=h a;rw[hx]at this;exact this
theorem Ka.back{ob ob':Nat->Option Ob}(h:Ka ob ob'){a:Nat}{y:Ob}(hy:ob' a=some y):∃x n p,ob a=some x/\y=x.lk n p:=by
 have:=h a;cases hx:ob a with
 |none=>rw[hx]at this;rw[this]at hy;cases hy
 |some x=>
  rw[hx]at this;obtain⟨n,p,h1,_⟩:=this;rw[hy]at h1;exact⟨x,n,p,rfl,Fk h1⟩
theorem Ka.trans{ob ob' MZ:Nat->Option Ob}(h:Ka ob ob')(k:Ka ob' MZ):Ka ob MZ:=λa=>by
 cases hx:ob a with
 |none=>
  have h1:=h a;rw[hx]at h1;have h2:=k a;rw[h1]at h2;exact h2
 |some x=>
  obtain⟨n,p,h1,h2⟩:=h.of hx;obtain⟨n',p',h3,h4⟩:=k.of h1;exact⟨n',p',h3,λht=>by
   obtain⟨e1,e2⟩:=h2 ht;obtain⟨e3,e4⟩:=h4 ht;exact⟨e3.trans e1,e4.trans e2⟩⟩
theorem Ka.Fv{ob:Nat->Option Ob}{a:Nat}{x:Ob}(hx:ob a=some x)(ht:x.b.tag=1)(n p:Nat):Ka ob (Fv ob a (some (x.lk n p))):=λb=>by
 by_cases h:b=a
 ·subst h;rw[hx];exact⟨n,p,ak _ _ _,λk=>absurd ht k⟩
 ·rw[af _ _ h];exact Ka.refl ob b
theorem fk{ob:Nat->Option Ob}{a:Nat}{x:Ob}(n p:Nat)(b:Nat):G3 (Fv ob a (some (x.lk n p))) b=if b=a then n else G3 ob b:=by
 by_cases h:b=a
 ·subst h;rw[if_pos rfl];exact lG (S:= {(⟨0,0,λ_=>⟨0,[]⟩,λ_=>false,λ_=>none,λ_=>0,λ_=>0⟩:Fw)with ob:=Fv ob b (some (x.lk n p))}) (ak _ _ _)
 ·rw[if_neg h];unfold G3;rw[af _ _ h]
theorem iT{ob:Nat->Option Ob}{a:Nat}{x:Ob}(n p:Nat)(b:Nat):Ii (Fv ob a (some (x.lk n p))) b=if b=a then p else Ii ob b:=by
 by_cases h:b=a
 ·subst h;rw[if_pos rfl];exact nI (S:= {(⟨0,0,λ_=>⟨0,[]⟩,λ_=>false,λ_=>none,λ_=>0,λ_=>0⟩:Fw)with ob:=Fv ob b (some (x.lk n p))}) (ak _ _ _)
 ·rw[if_neg h];unfold Ii;rw[af _ _ h]
theorem mw{S:Fw}{m:Mm}(g:G S m){a b:Nat}{x y:Ob}(hx:S.ob a=some x)(GQ:x.b.tag=1)(hy:S.ob b=some y)(GL:y.b.tag=1):
  ∃m' ob',jh a b m=some m'/\G {S with ob:=ob'} m'/\Ka S.ob ob'/\(∀c,G3 ob' c=if c=a then b else G3 S.ob c)/\∀c,Ii ob' c=if c=b then a else Ii S.ob c:=by
 have ha:=g.FV hx;have hb:=g.FV hy;obtain⟨m1,e1,g1⟩:=g.OR hx GQ (v:=b) (by omega);obtain⟨y',NO,hty',hny,hpy⟩:∃y',Fv S.ob a (some (x.lk b x.b.prev)) b=some y'/\y'.b.tag=1/\y'.b.next=G3 (Fv S.ob a (some (x.lk b x.b.prev))) b/\True:=by
  by_cases h:b=a
  ·subst h;exact⟨_,ak _ _ _,GQ,by rw[fk,if_pos rfl];rfl,trivial⟩
  ·exact⟨y,by rw[af _ _ h];exact hy,GL,by rw[fk,if_neg h,lG hy],trivial⟩
 obtain⟨m2,e2,g2⟩:=g1.OS (S:= {S with ob:=Fv S.ob a (some (x.lk b x.b.prev))}) NO hty' (v:=a) (by omega);refine⟨m2,_,?_,g2,(Ka.Fv hx GQ _ _).trans (Ka.Fv NO hty' _ _),λc=> ?_,λc=> ?_⟩
 ·unfold jh;rw[e1,Fj,e2]
 ·show G3 (Fv (Fv S.ob a (some (x.lk b x.b.prev))) b (some (y'.lk y'.b.next a))) c=_;rw[fk];by_cases h:c=b
  ·subst h;rw[if_pos rfl,hny,fk]
  ·rw[if_neg h,fk]
 ·show Ii (Fv (Fv S.ob a (some (x.lk b x.b.prev))) b (some (y'.lk y'.b.next a))) c=_;rw[iT];by_cases h:c=b
  ·rw[if_pos h,if_pos h]
  ·rw[if_neg h,if_neg h,iT];by_cases k:c=a
   ·rw[if_pos k,k,nI hx]
   ·rw[if_neg k]
end Go.FC
namespace Go.FC
theorem qj{r:List Nat}(h:r.Nodup){x:Nat}(hx:x∈r.dropLast):x≠r.getLastD 0:=by
 by_cases hr:r= []
 ·subst hr;simp at hx
 ·have e:r=r.dropLast++ [r.getLast hr]:=(List.dropLast_concat_getLast hr).symm;have e2:r.getLastD 0=r.getLast hr:=by rw[List.getLastD_eq_getLast?,List.getLast?_eq_some_getLast hr];rfl
  rw[e,List.nodup_append]at h;rw[e2];exact h.2.2 x hx _ (by simp)
theorem qk{r:List Nat}(h:r.Nodup){y:Nat}(hy:y∈r.tail):y≠r.headD 0:=by
 cases r with
 |nil=>simp at hy
 |cons a l=>
  rintro rfl;exact(List.nodup_cons.1 h).1 hy
theorem ij{r:List Nat}(h:r≠ []):r.getLastD 0∈r:=by
 rw[List.getLastD_eq_getLast?,List.getLast?_eq_some_getLast h];exact List.getLast_mem h
theorem fY{r:List Nat}(h:r≠ []):r.headD 0∈r:=by
 cases r with
 |nil=>exact absurd rfl h
 |cons a l=>simp
variable{S:Fw}{m:Mm}{ex:Nat}{r:List Nat}
namespace Rg
theorem Lu(g:G S m){a:Nat}(h:Rg S a r){x:Ob}(hx:S.ob a=some x)(ht:x.b.tag=1)(hn:x.b.next=0)(hlen:r.length<1000000):
  ∃m' ob' root',ji a m=some m'/\Ka S.ob ob'/\(∀f,f<13\/15<f->root' f=S.root f)/\G {S with ob:=ob',root:=root'} m'/\Rg {S with ob:=ob',root:=root'} 0 (r++ [a]):=by
 have ha:=g.FV hx;have JT:a∉r:=λk=>((h.mem a).1 k).1 rfl;have hnd:(r++ [a]).Nodup:=List.nodup_append.2 ⟨h.nd,by simp,λb hb c hc e=>by simp at hc;rw[e,hc]at hb;exact JT hb⟩;have SV:∀ob',Ka S.ob ob'->∀b,b∈r++ [a]↔b≠0/\∃y,ob' b=some y/\y.b.tag=1:=λob' hk b=>by
  rw[List.mem_append,h.mem b];constructor
  ·rintro(⟨_,y,hy,GL⟩|hb)
   ·obtain⟨n,p,h1,_⟩:=hk.of hy;exact⟨(g.FV hy).1,_,h1,GL⟩
   ·obtain rfl:b=a:=by simpa using hb
    obtain⟨n,p,h1,_⟩:=hk.of hx;exact⟨ha.1,_,h1,ht⟩
  ·rintro⟨_,y,hy,GL⟩;obtain⟨z,n,p,hz,rfl⟩:=hk.back hy;by_cases e:b=a
   ·exact .inr (by simp[e])
   ·exact .inl ⟨e,z,hz,GL⟩
 have start:ji a m=(if r.headD 0=0 then(jh a a m).bind λm1=>(m1.FG 13 a).bind λm2=>m2.FG 14 a else(kL (r.headD 0) m).bind λp=>(jh p a m).bind λm1=>jh a (r.headD 0) m1).bind λm3=>bK 15 m3:=by
  unfold ji;rw[g.tag hx ht,Fj,iS g hx,Fj,lG hx,hn,if_neg (λk=>k rfl),g.Hh (by decide) (.inr (by decide)),Fj,h.hd]
 rw[start];by_cases hr:r= []
 ·subst hr;rw[if_pos (show([]:List Nat).headD 0=0 from rfl)];obtain⟨m1,KW,e1,g1,k1,n1,p1⟩:=mw g hx ht hx ht;obtain⟨m2,e2,g2⟩:=g1.GJ (f:=13) (v:=a) (by decide) (.inr (by decide)) (by show _<256^4;omega);obtain⟨m3,e3,g3⟩:=g2.GJ (f:=14) (v:=a) (by decide) (.inr (by decide)) (by show _<256^4;omega);have hc:S.root 15=0:=h.ct;obtain⟨m4,e4,g4⟩:=g3.GJ (f:=15) (v:=1) (by decide) (.inr (by decide)) (by decide);refine⟨m4,KW,_,?_,k1,?_,g4,hnd,SV KW k1,⟨trivial,λ_=> ?_⟩,?_,⟨λk=>(by simp at k),λ_=> ?_⟩,?_⟩
  ·rw[e1,Fj,e2,Fj,e3,Fj];unfold bK;rw[g3.Hh (by decide) (.inr (by decide)),Fj];show m3.FG 15 (Fv (Fv S.root 13 a) 14 a 15+1)=_;rw[af _ _ (by decide),af _ _ (by decide),hc];exact e4
  ·intro f hf;show Fv (Fv (Fv S.root 13 a) 14 a) 15 1 f=_;rw[af _ _ (by omega),af _ _ (by omega),af _ _ (by omega)]
  ·show G3 KW a=a/\Ii KW a=a;rw[n1,p1,if_pos rfl,if_pos rfl];exact⟨rfl,rfl⟩
  ·show Fv (Fv (Fv S.root 13 a) 14 a) 15 1 13=a;rw[af _ _ (by decide),af _ _ (by decide),ak]
  ·show Fv (Fv (Fv S.root 13 a) 14 a) 15 1 14∈ [a];rw[af _ _ (by decide),ak];simp
  ·show Fv (Fv (Fv S.root 13 a) 14 a) 15 1 15=1;rw[ak]
 ·have Zd:=fY hr;have Xl:=ij hr;obtain⟨y,hy,GL⟩:=h.obj Zd;obtain⟨z,hz,KX⟩:=h.obj Xl;have GI:=h.cy.2 hr;rw[if_neg (g.FV hy).1,tD g hy,Fj,GI.2];obtain⟨m1,KW,e1,g1,k1,n1,p1⟩:=mw g hz KX hx ht;obtain⟨nx,px,Q5,_⟩:=k1.of hx;obtain⟨ny,py,hy1,_⟩:=k1.of hy;obtain⟨m2,Ju,e2,g2,k2,n2,p2⟩:=mw g1 (S:= {S with ob:=KW}) Q5 ht hy1 GL;obtain⟨m3,e3,g3⟩:=g2.GJ (f:=15) (v:=r.length+1) (by decide) (.inr (by decide)) (by show _<256^4;omega);have hah:a≠r.headD 0:=λe=>JT (e▸Zd);have Nk:a≠r.getLastD 0:=λe=>JT (e▸Xl);have nn:∀c,G3 Ju c=if c=a then r.headD 0 else if c=r.getLastD 0 then a else G3 S.ob c:=λc=>by rw[n2 c,n1 c]
  have pp:∀c,Ii Ju c=if c=r.headD 0 then a else if c=a then r.getLastD 0 else Ii S.ob c:=λc=>by rw[p2 c,p1 c]
  refine⟨m3,Ju,_,?_,k1.trans k2,?_,g3,hnd,SV Ju (k1.trans k2),⟨?_,λ_=> ?_⟩,?_,⟨λk=>(by simp at k),λ_=> ?_⟩,?_⟩
  ·rw[e1,Fj,e2,Fj];unfold bK;rw[g2.Hh (by decide) (.inr (by decide)),Fj];show m2.FG 15 (S.root 15+1)=_;rw[h.ct];exact e3
  ·intro f hf;show Fv S.root 15 (r.length+1) f=_;rw[af _ _ (by omega)]
  ·refine Ch.append (h.cy.1.congr (λc hc=> ?_) λc hc=> ?_) trivial λ_ _=> ?_
   ·show G3 Ju c=_;rw[nn,if_neg (λe:c=a=>JT (by have:=List.dropLast_subset _ hc;rwa [e]at this)),if_neg (qj h.nd hc)]
   ·show Ii Ju c=_;rw[pp,if_neg (qk h.nd hc),if_neg (λe:c=a=>JT (by have:=List.mem_of_mem_tail hc;rwa [e]at this))]
   ·show G3 Ju (r.getLastD 0)=a/\Ii Ju a=r.getLastD 0;rw[nn,pp,if_neg (Ne.symm Nk),if_pos rfl,if_neg hah,if_pos rfl];exact⟨rfl,rfl⟩
  ·rw[show(r++ [a]).getLastD 0=a by rw[ew (by simp)];rfl,show(r++ [a]).headD 0=r.headD 0 by cases r with|nil=>exact absurd rfl hr|cons b l=>rfl];show G3 Ju a=_/\Ii Ju (r.headD 0)=a;rw[nn,pp,if_pos rfl,if_pos rfl];exact⟨rfl,rfl⟩
  ·show Fv S.root 15 (r.length+1) 13=_;rw[af _ _ (by decide),h.hd];cases r with
   |nil=>exact absurd rfl hr
   |cons b l=>rfl
  ·show Fv S.root 15 (r.length+1) 14∈_;rw[af _ _ (by decide)];exact List.mem_append_left _ (h.bm.2 hr)
  ·show Fv S.root 15 (r.length+1) 15=_;rw[ak];simp
end Rg
end Go.FC
namespace Go.FC
theorem Lx.rem{nx pv Vc Vd:Nat->Nat}{a:Nat}{t:List Nat}(h:Lx nx pv (a::t))(hnd:(a::t).Nodup)(ht:t≠ [])
  (hn:∀c,c≠a->Vc c=if c=t.getLastD 0 then t.headD 0 else nx c) (hp:∀c,c≠a->Vd c=if c=t.headD 0 then t.getLastD 0 else pv c):Lx Vc Vd t:=by
 have h1:=List.nodup_cons.1 hnd;have hc:Ch nx pv t:=Ch.right (r:= [a]) h.1;refine⟨hc.congr (λx hx=> ?_) λy hy=> ?_,λ_=> ?_⟩
 ·have hm:=List.dropLast_subset _ hx;rw[hn x (λe=>h1.1 (e▸hm)),if_neg (qj h1.2 hx)]
 ·have hm:=List.mem_of_mem_tail hy;rw[hp y (λe=>h1.1 (e▸hm)),if_neg (qk h1.2 hy)]
 ·rw[hn _ (λe=>h1.1 (e▸ij ht)),hp _ (λe=>h1.1 (e▸fY ht)),if_pos rfl,if_pos rfl];exact⟨rfl,rfl⟩
variable{S:Fw}{m:Mm}{ex:Nat}{r:List Nat}
theorem qm(g:G S m)(fr aaf:Nat)(RN:aaf<4294967296):∃m' root',gT fr aaf m=some m'/\G {S with root:=root'} m'/\(∀f,f≠13->f≠14->root' f=S.root f)/\(root' 13=if S.root 13=fr then aaf else S.root 13)/\(root' 14=if S.root 14=fr then aaf else S.root 14):=by
 unfold gT;rw[g.Hh (by decide) (.inr (by decide)),Fj];have one:∃m1 r1,(if S.root 13=fr then m.FG 13 aaf else some m)=some m1/\G {S with root:=r1} m1/\(∀f,f≠13->r1 f=S.root f)/\r1 13=if S.root 13=fr then aaf else S.root 13:=by
  by_cases h:S.root 13=fr
  ·rw[if_pos h];obtain⟨m1,e1,g1⟩:=g.GJ (f:=13) (v:=aaf) (by decide) (.inr (by decide)) (by show _<256^4;omega);exact⟨m1,_,e1,g1,λf hf=>af _ _ hf,by rw[if_pos h];exact ak _ _ _⟩
  ·rw[if_neg h];exact⟨m,S.root,rfl,g,λ_ _=>rfl,by rw[if_neg h]⟩
 obtain⟨m1,r1,e1,g1,h1,h2⟩:=one;rw[e1,Fj,g1.Hh (by decide) (.inr (by decide)),Fj];show∃m' root',(if r1 14=fr then m1.FG 14 aaf else some m1)=some m'/\_;have Yy:=h1 14 (by decide);by_cases h:S.root 14=fr
 ·rw[if_pos (by rw[Yy];exact h)];obtain⟨m2,e2,g2⟩:=g1.GJ (f:=14) (v:=aaf) (by decide) (.inr (by decide)) (by show _<256^4;omega);refine⟨m2,_,e2,g2,λf hf IT=> ?_,?_,?_⟩
  ·show Fv r1 14 aaf f=_;rw[af _ _ IT,h1 f hf]
  ·show Fv r1 14 aaf 13=_;rw[af _ _ (by decide),h2]
  ·show Fv r1 14 aaf 14=_;rw[ak,if_pos h]
 ·rw[if_neg (by rw[Yy];exact h)];exact⟨m1,r1,rfl,g1,λf hf _=>h1 f hf,h2,by rw[if_neg h,Yy]⟩
namespace Rg
theorem IV(g:G S m){a:Nat}{p q:List Nat}(h:Rg S 0 (p++a::q))(hlt15:(p++q).length<1000000):
  ∃m' ob' root',lO a m=some m'/\Ka S.ob ob'/\(∀f,f<13\/15<f->root' f=S.root f)/\G {S with ob:=ob',root:=root'} m'/\Rg {S with ob:=ob',root:=root'} a (p++q):=by
 have QA:a∈p++a::q:=by simp
 obtain⟨x,hx,ht⟩:=h.obj QA;have ha:=g.FV hx;have Vf:Lx (G3 S.ob) (Ii S.ob) (a::(q++p)):=by
  have:=Lx.rot h.cy;simpa using this
 have Vg:=h.nd;have hnd:(a::(q++p)).Nodup:=by
  have:=(List.perm_append_comm (l₁:=p) (l₂:=a::q)).nodup_iff.1 Vg;simpa using this
 have JT:=(List.nodup_cons.1 hnd).1;have hpq:(p++q).Nodup:=(List.perm_append_comm (l₁:=q) (l₂:=p)).nodup_iff.1 (List.nodup_cons.1 hnd).2;have hlen:(p++a::q).length=(p++q).length+1:=by simp;omega
 have J0:G3 S.ob a=if q++p= []then a else(q++p).headD 0:=by
  by_cases e:q++p= []
  ·rw[if_pos e];rw[e]at Vf;exact(Vf.2 (by simp)).1
  ·rw[if_neg e];exact(Ch.mid (r:= [a]) Vf.1 (by simp) e).1
 have JH:Ii S.ob a=if q++p= []then a else(q++p).getLastD 0:=by
  have h2:=(Vf.2 (by simp)).2;by_cases e:q++p= []
  ·rw[if_pos e];rw[e]at h2;exact h2
  ·rw[if_neg e];rw[show a::(q++p)= [a]++(q++p)from rfl,ew e]at h2;exact h2
 have SV:∀ob',Ka S.ob ob'->∀b,b∈p++q↔b≠a/\∃y,ob' b=some y/\y.b.tag=1:=λob' hk b=>by
  have hm:=h.mem b;constructor
  ·intro hb;have Pk:b≠a:=λe=>JT (by rw[<-e];rcases List.mem_append.1 hb with k|k<;>simp[k]);obtain⟨_,y,hy,GL⟩:=hm.1 (by rcases List.mem_append.1 hb with k|k<;>simp[k]);obtain⟨n,q',h1,_⟩:=hk.of hy;exact⟨Pk,_,h1,GL⟩
  ·rintro⟨Pk,y,hy,GL⟩;obtain⟨z,n,q',hz,rfl⟩:=hk.back hy;have:=hm.2 ⟨(g.FV hz).1,z,hz,GL⟩;simp at this⊢;rcases this with k|k|k
   ·exact .inl k
   ·exact absurd k Pk
   ·exact .inr k
 have LU:G3 S.ob a≠0:=by
  have:=h.Ly QA;exact(h.ne0 g this).1
 unfold lO;rw[g.tag hx ht,Fj,iS g hx,Fj,if_neg LU];obtain⟨aaf,RN⟩:=Fp (if G3 S.ob a=a then 0 else G3 S.ob a)
 have htol:aaf<4294967296:=by
  rw[RN];split
  ·decide
  ·have:=(h.ne0 g (h.Ly QA)).2;omega
 have hto0:q++p= []->aaf=0:=λe=>by rw[RN,J0,if_pos e,if_pos rfl]
 have hto1:q++p≠ []->aaf=(q++p).headD 0:=λe=>by
  have hm:=fY e;rw[RN,J0,if_neg e,if_neg (λk:(q++p).headD 0=a=>JT (by rw[k]at hm;exact hm))]
 rw[<-RN];obtain⟨m1,GS,e1,g1,q1,q13,q14⟩:=qm g a aaf htol;rw[e1,Fj];have hpv:kL a m1=some (Ii S.ob a):=tD (S:= {S with root:=GS}) g1 hx;rw[hpv,Fj];obtain⟨pp,hpp⟩:=Fp (Ii S.ob a);obtain⟨nn,Tm⟩:=Fp (G3 S.ob a);rw[<-hpp,<-Tm];have PL:nn∈p++a::q:=by rw[Tm];exact h.Ly QA
 have hpm:pp∈p++a::q:=by
  rw[hpp,JH];split
  ·exact QA
  ·rename_i e
   have:=ij e;obtain⟨v,hv⟩:=Fp ((q++p).getLastD 0);rw[<-hv]at this⊢;rcases List.mem_append.1 this with k|k<;>simp[k]
 obtain⟨y,hy,GL⟩:=h.obj hpm;obtain⟨z,hz,KX⟩:=h.obj PL;obtain⟨m2,Ju,e2,g2,k2,n2,p2⟩:=mw (S:= {S with root:=GS}) g1 hy GL hz KX;obtain⟨nx,px,MM,_⟩:=k2.of hx;obtain⟨m3,e3,g3⟩:=g2.OR (S:= {S with ob:=Ju,root:=GS}) MM ht (v:=0) (by decide);have Tn:Fv Ju a (some ((x.lk nx px).lk 0 (x.lk nx px).b.prev)) a=some ((x.lk nx px).lk 0 (x.lk nx px).b.prev):=ak _ _ _;obtain⟨m4,e4,g4⟩:=g3.OS (S:= {S with ob:=Fv Ju a (some ((x.lk nx px).lk 0 (x.lk nx px).b.prev)),root:=GS}) Tn ht (v:=0) (by decide);obtain⟨Md,Xm⟩:=Fp (Fv (Fv Ju a (some ((x.lk nx px).lk 0 (x.lk nx px).b.prev))) a (some (((x.lk nx px).lk 0 (x.lk nx px).b.prev).lk ((x.lk nx px).lk 0 (x.lk nx px).b.prev).b.next 0)));have k4:Ka S.ob Md:=by rw[Xm];exact k2.trans ((Ka.Fv MM ht _ _).trans (Ka.Fv Tn ht _ _))
 have n4:∀c,c≠a->G3 Md c=if c=pp then nn else G3 S.ob c:=λc hc=>by rw[Xm,fk,if_neg hc,fk,if_neg hc,n2]
 have p4:∀c,c≠a->Ii Md c=if c=nn then pp else Ii S.ob c:=λc hc=>by rw[Xm,iT,if_neg hc,iT,if_neg hc,p2]
 have g4':G {S with ob:=Md,root:=GS} m4:=by rw[Xm];exact g4
 have h15:GS 15=(p++q).length+1:=by rw[q1 15 (by decide) (by decide),h.ct,hlen]
 obtain⟨m5,e5,g5⟩:=g4'.GJ (f:=15) (v:=(p++q).length) (by decide) (.inr (by decide)) (by show _<256^4;omega);refine⟨m5,Md,_,?_,k4,?_,g5,hpq,SV Md k4,?_,?_,?_,?_⟩
 ·rw[e2,Fj,e3,Fj,e4,Fj];unfold dV;rw[g4'.Hh (by decide) (.inr (by decide)),Fj];show(if GS 15=0 then none else m4.FG 15 (GS 15-1))=_;rw[h15,if_neg (by omega),Nat.add_sub_cancel];exact e5
 ·intro f hf;show Fv GS 15 _ f=_;rw[af _ _ (by omega),q1 f (by omega) (by omega)]
 ·by_cases e:q++p= []
  ·have:p++q= []:=by simp at e⊢;exact⟨e.2,e.1⟩
   show Lx _ _ (p++q);rw[this];exact⟨trivial,λk=>absurd rfl k⟩
  ·refine Lx.rot (Lx.rem Vf hnd e (λc hc=> ?_) λc hc=> ?_)
   ·show G3 Md c=_;rw[n4 c hc,hpp,Tm,JH,J0,if_neg e,if_neg e]
   ·show Ii Md c=_;rw[p4 c hc,hpp,Tm,JH,J0,if_neg e,if_neg e]
 ·show Fv GS 15 (p++q).length 13=_;rw[af _ _ (by decide),q13,h.hd];cases p with
  |nil=>
   refine(if_pos rfl).trans ?_;cases q with
   |nil=>exact hto0 rfl
   |cons b q=>exact hto1 (by simp)
  |cons b p=>exact if_neg (λe:b=a=>JT (by simp[e]))
 ·have hb:=h.bm.2 (by simp);show(_->Fv GS 15 (p++q).length 14=0)/\(_->Fv GS 15 (p++q).length 14∈_);rw[af _ _ (by decide),q14];refine⟨λe=> ?_,λe=> ?_⟩
  ·have e2:p= []/\q= []:=by simpa using e
   rw[e2.1,e2.2]at hb;have e3:S.root 14=a:=by simpa using hb
   rw[if_pos e3];exact hto0 (by rw[e2.1,e2.2];rfl)
  ·have e2:q++p≠ []:=λk=>e (by simp at k⊢;exact⟨k.2,k.1⟩);by_cases k:S.root 14=a
   ·rw[if_pos k,hto1 e2];have hm:=fY e2;obtain⟨v,hv⟩:=Fp ((q++p).headD 0);rw[<-hv]at hm⊢;rcases List.mem_append.1 hm with k3|k3<;>simp[k3]
   ·rw[if_neg k];simp at hb⊢;rcases hb with k3|k3|k3
    ·exact .inl k3
    ·exact absurd k3 k
    ·exact .inr k3
 ·show Fv GS 15 (p++q).length 15=_;rw[ak]
end Rg
end Go.FC
namespace Go.FC
theorem Lx.mov{nx pv Vc Vd:Nat->Nat}{a b:Nat}{t:List Nat}(h:Lx nx pv (a::t))(hnd:(a::t).Nodup)(hb:b∉a::t)(ht:t≠ [])(h1:nx b=nx a)(h2:pv b=pv a)
  (hn:∀c,Vc c=if c=t.getLastD 0 then b else nx c) (hp:∀c,Vd c=if c=t.headD 0 then b else pv c):Lx Vc Vd (b::t):=by
 have h0:=List.nodup_cons.1 hnd;have Nt:b∉t:=λk=>hb (by simp[k]);have hc:Ch nx pv t:=Ch.right (r:= [a]) h.1;have hm:=Ch.mid (r:= [a]) h.1 (by simp) ht;have he:=(h.2 (by simp));rw[show(a::t).getLastD 0=t.getLastD 0 from ew (p:= [a]) ht]at he;have hl:=ij ht;have hh:=fY ht;refine⟨Ch.append (r:= [b]) trivial (hc.congr (λx hx=> ?_) λy hy=> ?_) λ_ _=> ?_,λ_=> ?_⟩
 ·rw[hn,if_neg (qj h0.2 hx)]
 ·rw[hp,if_neg (qk h0.2 hy)]
 ·rw[show [b].getLastD 0=b from rfl,hn,hp,if_pos rfl,if_neg (λe:b=t.getLastD 0=>Nt (by rw[e];exact hl)),h1];exact⟨hm.1,rfl⟩
 ·rw[show(b::t).getLastD 0=t.getLastD 0 from ew (p:= [b]) ht,show(b::t).headD 0=b from rfl,hn,hp,if_pos rfl,if_neg (λe:b=t.headD 0=>Nt (by rw[e];exact hh)),h2];exact⟨rfl,he.2⟩
variable{S:Fw}{m:Mm}{ex:Nat}{r:List Nat}
namespace Rg
theorem mov_is(g:G S m){a b:Nat}{p q:List Nat}(h:Rg S b (p++a::q)){x y:Ob}(hx:S.ob a=some x)(hy:S.ob b=some y)(GL:y.b.tag=1)(e1:y.b.next=x.b.next)(e2:y.b.prev=x.b.prev):
  ∃m' ob' root',jk a b m=some m'/\Ka S.ob ob'/\(∀f,f<13\/14<f->root' f=S.root f)/\G {S with ob:=ob',root:=root'} m'/\Rg {S with ob:=ob',root:=root'} a (p++b::q):=by
 have QA:a∈p++a::q:=by simp
 have hbr:b∉p++a::q:=λk=>((h.mem b).1 k).1 rfl;have ht:x.b.tag=1:=by
  obtain⟨x',GD,ht⟩:=h.obj QA;rw[hx]at GD;cases GD;exact ht
 have hblt:=g.FV hy;have halt:=g.FV hx;have Vf:Lx (G3 S.ob) (Ii S.ob) (a::(q++p)):=by
  have:=Lx.rot h.cy;simpa using this
 have Vg:=h.nd;have hnd:(a::(q++p)).Nodup:=by
  have:=(List.perm_append_comm (l₁:=p) (l₂:=a::q)).nodup_iff.1 Vg;simpa using this
 have JT:=(List.nodup_cons.1 hnd).1;have Nt:b∉a::(q++p):=λk=>hbr (by simp at k⊢;rcases k with k|k|k;exact .inr (.inl k);exact .inr (.inr k);exact .inl k);have hnd':(p++b::q).Nodup:=by
  refine(List.perm_append_comm (l₁:=b::q) (l₂:=p)).nodup_iff.1 ?_;show(b::(q++p)).Nodup;exact List.nodup_cons.2 ⟨λk=>Nt (by simp at k⊢;exact .inr k),(List.nodup_cons.1 hnd).2⟩
 have LD:a≠b:=λe=>hbr (by rw[<-e];exact QA);have J0:G3 S.ob a=if q++p= []then a else(q++p).headD 0:=by
  by_cases e:q++p= []
  ·rw[if_pos e];rw[e]at Vf;exact(Vf.2 (by simp)).1
  ·rw[if_neg e];exact(Ch.mid (r:= [a]) Vf.1 (by simp) e).1
 have JH:Ii S.ob a=if q++p= []then a else(q++p).getLastD 0:=by
  have h2:=(Vf.2 (by simp)).2;by_cases e:q++p= []
  ·rw[if_pos e];rw[e]at h2;exact h2
  ·rw[if_neg e];rw[show a::(q++p)= [a]++(q++p)from rfl,ew e]at h2;exact h2
 have nxb:G3 S.ob b=G3 S.ob a:=by rw[lG hy,lG hx,e1]
 have pvb:Ii S.ob b=Ii S.ob a:=by rw[nI hy,nI hx,e2]
 have SV:∀ob',Ka S.ob ob'->∀c,c∈p++b::q↔c≠a/\∃z,ob' c=some z/\z.b.tag=1:=λob' hk c=>by
  have hm:=h.mem c;constructor
  ·intro hc;have Lr:c≠a:=λe=>by
    rw[e]at hc;simp at hc JT;rcases hc with k|k|k
    ·exact JT.2 k
    ·exact LD k
    ·exact JT.1 k
   refine⟨Lr,?_⟩;by_cases Na:c=b
   ·obtain⟨n,q',h1,_⟩:=hk.of hy;exact⟨y.lk n q',by rw[Na];exact h1,GL⟩
   ·obtain⟨_,z,hz,KX⟩:=hm.1 (by simp at hc⊢;rcases hc with k|k|k;exact .inl k;exact absurd k Na;exact .inr (.inr k));obtain⟨n,q',h1,_⟩:=hk.of hz;exact⟨_,h1,KX⟩
  ·rintro⟨Lr,z,hz,KX⟩;obtain⟨u,n,q',hu,rfl⟩:=hk.back hz;by_cases Na:c=b
   ·simp[Na]
   ·have:=hm.2 ⟨Na,u,hu,KX⟩;simp at this⊢;rcases this with k|k|k
    ·exact .inl k
    ·exact absurd k Lr
    ·exact .inr (.inr k)
 have fin:∀m1 KW,G {S with ob:=KW} m1->Ka S.ob KW->Lx (G3 KW) (Ii KW) (b::(q++p))->∃m' root',gT a b m1=some m'/\(∀f,f<13\/14<f->root' f=S.root f)/\G {S with ob:=KW,root:=root'} m'/\Rg {S with ob:=KW,root:=root'} a (p++b::q):=λm1 KW g1 k1 c1=>by
  obtain⟨m2,Hi,e3,g2,q1,q13,q14⟩:=qm g1 a (aaf:=b) (by omega);refine⟨m2,Hi,e3,λf hf=>q1 f (by omega) (by omega),g2,hnd',SV KW k1,?_,?_,⟨λk=>(by simp at k),λ_=> ?_⟩,?_⟩
  ·have:=Lx.rot (p:=b::q) (q:=p) (by simpa using c1);exact this
  ·show Hi 13=_;rw[q13];show(if S.root 13=a then b else S.root 13)=_;rw[h.hd];cases p with
   |nil=>exact if_pos rfl
   |cons c p=>exact if_neg (λe:c=a=>JT (by simp[e]))
  ·show Hi 14∈_;rw[q14];show(if S.root 14=a then b else S.root 14)∈_;have hb:=h.bm.2 (by simp);by_cases k:S.root 14=a
   ·rw[if_pos k];simp
   ·rw[if_neg k];simp at hb⊢;rcases hb with k3|k3|k3
    ·exact .inl k3
    ·exact absurd k3 k
    ·exact .inr (.inr k3)
  ·show Hi 15=_;rw[q1 15 (by decide) (by decide)];show S.root 15=_;rw[h.ct];simp
 unfold jk;rw[g.tag hy GL,Fj,iS g hy,Fj,nxb];have LU:G3 S.ob a∈p++a::q:=h.Ly QA;rw[if_neg (h.ne0 g LU).1];by_cases e:q++p= []
 ·rw[if_pos (by rw[J0,if_pos e])];obtain⟨m1,KW,e3,g1,k1,n1,p1⟩:=mw g hy GL hy GL;obtain⟨m2,Hi,e4,r1,r2,r3⟩:=fin m1 KW g1 k1 (by
   rw[e];refine⟨trivial,λ_=> ?_⟩;show G3 KW b=b/\Ii KW b=b;rw[n1,p1,if_pos rfl,if_pos rfl]
   first|done|exact⟨rfl,rfl⟩)
  exact⟨m2,KW,Hi,by rw[e3,Fj,e4],k1,r1,r2,r3⟩
 ·have hh:=fY e;have hl:=ij e;have hhr:(q++p).headD 0∈p++a::q:=by
   obtain⟨v,hv⟩:=Fp ((q++p).headD 0);rw[<-hv]at hh⊢;rcases List.mem_append.1 hh with k|k<;>simp[k]
  have hlr:(q++p).getLastD 0∈p++a::q:=by
   obtain⟨v,hv⟩:=Fp ((q++p).getLastD 0);rw[<-hv]at hl⊢;rcases List.mem_append.1 hl with k|k<;>simp[k]
  have Xn:G3 S.ob a=(q++p).headD 0:=by rw[J0,if_neg e]
  have hpa2:Ii S.ob a=(q++p).getLastD 0:=by rw[JH,if_neg e]
  rw[if_neg (λk:G3 S.ob a=a=>JT (by rw[Xn]at k;rw[k]at hh;exact hh)),tD g hy,Fj,pvb,Xn,hpa2];obtain⟨z,hz,KX⟩:=h.obj hhr;obtain⟨u,hu,Tz⟩:=h.obj hlr;obtain⟨m1,e3,g1⟩:=g.OS hz KX (v:=b) (by omega);have k1:=Ka.Fv hz KX z.b.next b;obtain⟨nu,pu,SK,_⟩:=k1.of hu;obtain⟨m2,e4,g2⟩:=g1.OR (S:= {S with ob:=Fv S.ob ((q++p).headD 0) (some (z.lk z.b.next b))}) SK Tz (v:=b) (by omega);have k2:=k1.trans (Ka.Fv SK Tz b (u.lk nu pu).b.prev);have hcm:Lx (G3 (Fv (Fv S.ob ((q++p).headD 0) (some (z.lk z.b.next b))) ((q++p).getLastD 0) (some ((u.lk nu pu).lk b (u.lk nu pu).b.prev)))) (Ii (Fv (Fv S.ob ((q++p).headD 0) (some (z.lk z.b.next b))) ((q++p).getLastD 0) (some ((u.lk nu pu).lk b (u.lk nu pu).b.prev)))) (b::(q++p)):=by
   refine Lx.mov Vf hnd Nt e nxb pvb (λc=> ?_) λc=> ?_
   ·rw[fk];by_cases k:c=(q++p).getLastD 0
    ·rw[if_pos k,if_pos k]
     try rfl
    ·rw[if_neg k,if_neg k,fk];by_cases k2:c=(q++p).headD 0
     ·rw[if_pos k2,k2,lG hz]
      try rfl
     ·rw[if_neg k2]
   ·rw[iT];by_cases k:c=(q++p).getLastD 0
    ·rw[if_pos k];have:(u.lk nu pu).b.prev=Ii (Fv S.ob ((q++p).headD 0) (some (z.lk z.b.next b))) c:=by rw[k,nI (S:= {S with ob:=Fv S.ob ((q++p).headD 0) (some (z.lk z.b.next b))}) SK]
     rw[this,iT]
     try rfl
    ·rw[if_neg k,iT]
     try rfl
  obtain⟨m3,root3,e5,r1,r2,r3⟩:=fin m2 _ g2 k2 hcm;exact⟨m3,_,root3,by rw[e3,Fj,e4,Fj,e5],k2,r1,r2,r3⟩
end Rg
end Go.FC
namespace Go.FC
open Go.FP Go.Fy Go.Fz
def IF(ob:Nat->Option Ob)(a:Nat):Nat:=match ob a with
 |some x=>x.b.name
 |none=>0
theorem cg{ob:Nat->Option Ob}{a:Nat}{x:Ob}(h:ob a=some x):IF ob a=x.b.name:=by unfold IF;rw[h]
structure OT(x y:Ob):Prop where
 tag:y.b.tag=x.b.tag
 Ft:y.b.Ft=x.b.Ft
 name:y.b.name=x.b.name
 FB:y.b.FB=x.b.FB
 typ:y.b.typ=x.b.typ
 hash:y.b.hash=x.b.hash
 d:y.d=x.d
def Ij(ob ob':Nat->Option Ob):Prop:=(∀a x,ob a=some x->∃y,ob' a=some y/\OT x y)/\∀a,ob a=none->ob' a=none
theorem OT.refl(x:Ob):OT x x:=⟨rfl,rfl,rfl,rfl,rfl,rfl,rfl⟩
theorem OT.trans{x y z:Ob}(h:OT x y)(k:OT y z):OT x z:=⟨k.tag.trans h.tag,k.Ft.trans h.Ft,k.name.trans h.name,k.FB.trans h.FB,k.typ.trans h.typ,k.hash.trans h.hash,k.d.trans h.d⟩
namespace Ij
variable{ob ob' MZ:Nat->Option Ob}
theorem refl(ob:Nat->Option Ob):Ij ob ob:=⟨λa x h=>⟨x,h,OT.refl x⟩,λa h=>h⟩
theorem trans(h:Ij ob ob')(k:Ij ob' MZ):Ij ob MZ:=⟨λa x hx=>by
  obtain⟨y,hy,s⟩:=h.1 a x hx;obtain⟨z,hz,t⟩:=k.1 a y hy;exact⟨z,hz,s.trans t⟩,λa ha=>k.2 a (h.2 a ha)⟩
theorem back(h:Ij ob ob'){a:Nat}{y:Ob}(hy:ob' a=some y):∃x,ob a=some x/\OT x y:=by
 cases e:ob a with
 |none=>rw[h.2 a e]at hy;cases hy
 |some x=>
  obtain⟨z,hz,s⟩:=h.1 a x e;rw[hy]at hz;cases hz;exact⟨x,rfl,s⟩
theorem Fv{a:Nat}{x y:Ob}(hx:ob a=some x)(s:OT x y):Ij ob (Fv ob a (some y)):=by
 refine⟨λb z hz=> ?_,λb hb=> ?_⟩
 ·by_cases e:b=a
  ·subst e;rw[hx]at hz;cases hz;exact⟨y,ak _ _ _,s⟩
  ·exact⟨z,(af _ _ e).trans hz,OT.refl z⟩
 ·by_cases e:b=a
  ·subst e;rw[hx]at hb;cases hb
  ·exact(af _ _ e).trans hb
theorem nm(h:Ij ob ob')(a:Nat):IF ob' a=IF ob a:=by
 cases e:ob a with
 |none=>unfold IF;rw[e,h.2 a e]
 |some x=>
  obtain⟨y,hy,s⟩:=h.1 a x e;rw[cg e,cg hy,s.name]
theorem Xo(h:Ij ob ob'){a:Nat}(ha:Jk ob a):Jk ob' a:=by
 rcases ha with e|⟨x,hx,ht⟩
 ·exact .inl e
 ·obtain⟨y,hy,s⟩:=h.1 a x hx;exact .inr ⟨y,hy,s.tag.trans ht⟩
end Ij
theorem Ka.Oe{ob ob':Nat->Option Ob}(h:Ka ob ob'):Ij ob ob':=⟨λa x hx=>by
  obtain⟨n,p,h1,_⟩:=h.of hx;exact⟨_,h1,⟨rfl,rfl,rfl,rfl,rfl,rfl,rfl⟩⟩,λa ha=>by
  have:=h a;rw[ha]at this;exact this⟩
theorem Hu.Oe{ob ob':Nat->Option Ob}{nm:Nat->List (List UInt8)}(n:Hu ob nm)(h:Ij ob ob'):Hu ob' nm:=by
 refine⟨n.z,h.2 0 n.o0,?_,?_,?_,?_,?_⟩
 ·intro a y hy ht;obtain⟨x,hx,s⟩:=h.back hy;have:=n.node a x hx (s.tag.symm.trans ht);rw[s.name,s.hash,s.d];exact this
 ·intro a y hy;obtain⟨x,hx,s⟩:=h.back hy;rw[s.name];exact h.Xo (n.Jt a x hx)
 ·intro a y a' y' hy ht NO Np e;obtain⟨x,hx,s⟩:=h.back hy;obtain⟨x',GD,s'⟩:=h.back NO;exact n.un a x a' x' hx (s.tag.symm.trans ht) GD (s'.tag.symm.trans Np) e
 ·intro a y hy ht;obtain⟨x,hx,s⟩:=h.back hy;have:=n.VX a x hx (s.tag.symm.trans ht);rw[s.name,s.hash,s.d,s.typ];exact this
 ·intro a y a' y' hy ht NO Np e1 e2;obtain⟨x,hx,s⟩:=h.back hy;obtain⟨x',GD,s'⟩:=h.back NO;exact n.ue a x a' x' hx (s.tag.symm.trans ht) GD (s'.tag.symm.trans Np) (s.name.symm.trans (e1.trans s'.name)) (s.typ.symm.trans (e2.trans s'.typ))
theorem Ij.ex{ob ob':Nat->Option Ob}(h:Ij ob ob')(a:Nat):(∃x,ob' a=some x)↔∃x,ob a=some x:=by
 refine⟨λ⟨y,hy⟩=> ?_,λ⟨x,hx⟩=> ?_⟩
 ·obtain⟨x,hx,_⟩:=h.back hy;exact⟨x,hx⟩
 ·obtain⟨y,hy,_⟩:=h.1 a x hx;exact⟨y,hy⟩
theorem Hs.Oe{S:Fw}{ob':Nat->Option Ob}{root':Nat->Nat}(h:Hs S)(k:Ij S.ob ob'):Hs {S with ob:=ob',root:=root'}:=λa ha=>(h a ha).trans (k.ex a).symm
theorem Rg.congr{S S':Fw}{ex:Nat}{r:List Nat}(h:Rg S ex r)(k:Ij S.ob S'.ob)(hn:∀a,G3 S'.ob a=G3 S.ob a)(hp:∀a,Ii S'.ob a=Ii S.ob a)(h3:S'.root 13=S.root 13)(h4:S'.root 14=S.root 14)(h5:S'.root 15=S.root 15):Rg S' ex r:=by
 refine⟨h.nd,λa=> ?_,?_,h3.trans h.hd,by rw[h4];exact h.bm,h5.trans h.ct⟩
 ·rw[h.mem a];refine⟨λ⟨h1,x,hx,ht⟩=> ?_,λ⟨h1,y,hy,ht⟩=> ?_⟩
  ·obtain⟨y,hy,s⟩:=k.1 a x hx;exact⟨h1,y,hy,s.tag.trans ht⟩
  ·obtain⟨x,hx,s⟩:=k.back hy;exact⟨h1,x,hx,s.tag.symm.trans ht⟩
 ·rw[show G3 S'.ob=G3 S.ob from funext hn,show Ii S'.ob=Ii S.ob from funext hp];exact h.cy
def G4(ob:Nat->Option Ob)(a:Nat):Bool:=match ob a with
 |some x=>Nat.beq x.b.tag 2
 |none=>false
theorem gF{ob:Nat->Option Ob}{a:Nat}{x:Ob}(h:ob a=some x):G4 ob a=Nat.beq x.b.tag 2:=by unfold G4;rw[h]
theorem Ij.G4{ob ob':Nat->Option Ob}(h:Ij ob ob')(a:Nat):G4 ob' a=G4 ob a:=by
 cases e:ob a with
 |none=>unfold FC.G4;rw[e,h.2 a e]
 |some x=>
  obtain⟨y,hy,s⟩:=h.1 a x e;rw[gF e,gF hy,s.tag]
structure W(S:Fw)(m:Mm)(nm:Nat->List (List UInt8))(r L ps:List Nat)(ho:Nat):Prop where
 g:G S m
 n:Hu S.ob nm
 hs:Hs S
 rg:Rg S 0 r
 nd:L.Nodup
 mem:∀a,a∈L↔∃x,S.ob a=some x
 rf:∀a x,S.ob a=some x->x.b.tag=2->x.b.refs=(L.map (IF S.ob)++ps).count a/\1<=x.b.refs
 Vh:S.root 17=(L.filter (G4 S.ob)).length
 out:∀s,S.out s=false
 full:∀a s i,S.At a s i->a∉(S.sl s).free->a≠ho->∃x,S.ob a=some x
 now:S.root 16<=4611686018427387904
 pn:∀p∈ps,Jk S.ob p
 nc:∀a x,S.ob a=some x->x.b.tag=2->x.b.Ft=(bl x.d.length).1
namespace W
variable{S:Fw}{m:Mm}{nm:Nat->List (List UInt8)}{r L ps:List Nat}{ho:Nat}
theorem R8(g:G S m){l:List Nat}(hd:l.Nodup)(h:∀a∈l,∃s i,S.At a s i):l.length<=32*S.Fq:=by
 refine dL (λj=>S.ba (j/32) (j%32)) (32*S.Fq) l hd λa ha=> ?_;obtain⟨s,i,h1,h2,h3⟩:=h a ha;have h9:=g.c9 h1;have hb:i<32:=by
  by_cases c:(S.sl s).Ft=0
  ·rw[c,Lv.2]at h2;omega
  ·have:=(Nq _ (by omega) h9).2.2.2.1;omega
 refine⟨s*32+i,by omega,?_⟩;rw[show(s*32+i)/32=s by omega,show(s*32+i)%32=i by omega];exact h3
theorem at_(h:W S m nm r L ps ho){a:Nat}(ha:a∈L):∃s i,S.At a s i:=by
 obtain⟨x,hx⟩:=(h.mem a).1 ha;obtain⟨s,i,h1,_⟩:=h.g.wf.ob a x hx;exact⟨s,i,h1⟩
theorem len(h:W S m nm r L ps ho):L.length<=2048:=by
 have:=R8 h.g h.nd λa ha=>h.at_ ha;have:=h.g.NL;omega
theorem rlen(h:W S m nm r L ps ho):r.length<=2048:=by
 have:=R8 h.g h.rg.nd λa ha=>by
  obtain⟨x,hx,_⟩:=h.rg.obj ha;exact h.at_ ((h.mem a).2 ⟨x,hx⟩)
 have:=h.g.NL;omega
theorem perm(h:W S m nm r L ps ho){L':List Nat}(hp:L.Perm L'):W S m nm r L' ps ho:=
 ⟨h.g,h.n,h.hs,h.rg,hp.nodup_iff.1 h.nd,λa=>by rw[<-h.mem a];exact hp.mem_iff.symm,λa x hx ht=>by
  obtain⟨h1,h2⟩:=h.rf a x hx ht;exact⟨h1.trans (((hp.map _).append (List.Perm.refl ps)).count_eq a),h2⟩,h.Vh.trans (hp.filter _).length_eq,h.out,h.full,h.now,h.pn,h.nc⟩
theorem Er(g:G S m)(hs:Hs S){a s i:Nat}(ha:S.At a s i)(hn:S.ob a=none\/¬S.has a):S.has 0:=by
 have hc:=g.NL;by_cases h0:S.has 0
 ·exact h0
 exfalso;have Xj:∀i,i<S.slots->S.slot i≠0:=λi hi e=>h0 ⟨i,hi,e⟩;have JT:¬S.has a:=by
  rcases hn with hn|hn
  ·intro k;obtain⟨x,hx⟩:=(hs a (g.JO ha).1).1 k;rw[hn]at hx;cases hx
  ·exact hn
 have hnd:(a::(List.range S.slots).map S.slot).Nodup:=by
  refine List.nodup_cons.2 ⟨λk=> ?_,?_⟩
  ·obtain⟨i,hi,e⟩:=List.mem_map.1 k;exact JT ⟨i,List.mem_range.1 hi,e⟩
  ·refine List.pairwise_map.2 (List.Pairwise.imp_of_mem (fun {i j} hi hj hij e=> ?_) List.nodup_range);exact hij (g.ix.rh.inj i j (List.mem_range.1 hi) (List.mem_range.1 hj) (Xj i (List.mem_range.1 hi)) e)
 have:=R8 g hnd λb hb=>by
  rcases List.mem_cons.1 hb with e|hb
  ·exact⟨s,i,by rw[e];exact ha⟩
  ·obtain⟨j,hj,e⟩:=List.mem_map.1 hb;have XV:=List.mem_range.1 hj;obtain⟨x,hx⟩:=g.ix.there j XV (Xj j XV);rw[e]at hx;obtain⟨s,i,h1,_⟩:=g.wf.ob b x hx;exact⟨s,i,h1⟩
 rw[List.length_cons,List.length_map,List.length_range]at this;omega
theorem Oe(h:W S m nm r L ps ho){m':Mm}{r' ps':List Nat}{ob':Nat->Option Ob}{root':Nat->Nat}(g':G {S with ob:=ob',root:=root'} m')(k:Ij S.ob ob')(hr:Rg {S with ob:=ob',root:=root'} 0 r')
  (hf:∀a y,ob' a=some y->y.b.tag=2->y.b.refs=(L.map (IF S.ob)++ps').count a/\1<=y.b.refs) (h17:root' 17=S.root 17) (Jp:root' 16<=4611686018427387904) (hpn:∀p∈ps',Jk S.ob p):W {S with ob:=ob',root:=root'} m' nm r' L ps' ho:=
 ⟨g',h.n.Oe k,h.hs.Oe k,hr,h.nd,λa=>(h.mem a).trans (k.ex a).symm,λa y hy ht=>by
  rw[show L.map (IF (Fw.ob {S with ob:=ob',root:=root'}))=L.map (IF S.ob)from congrArg (λf=>L.map f) (funext λb=>k.nm b)];exact hf a y hy ht,by
  show root' 17=(L.filter (G4 ob')).length;rw[h17,show G4 ob'=G4 S.ob from funext λb=>k.G4 b];exact h.Vh,h.out,λa s i ha GF hne=>(k.ex a).2 (h.full a s i ha GF hne),Jp,λp hp=>k.Xo (hpn p hp),λa y hy ht=>by
  obtain⟨x,hx,s⟩:=k.back hy;rw[s.Ft,s.d];exact h.nc a x hx (s.tag.symm.trans ht)⟩
end W
end Go.FC
namespace Go.FC
open Go.FP Go.Fy Go.Fz
def Ob.rf(x:Ob)(v:Nat):Ob:= {x with b:= {x.b with refs:=v}}
theorem xz(b:Bk)(v:Nat)(ht:b.tag=2):aW {b with refs:=v}=aW b:=by
 unfold aW;rw[show List.range 12= [0,1,2,3,4,5,6,7,8,9,10,11]from rfl];simp only [List.any_cons,List.any_nil,ht,aT,show(FO 2 11).2=4 from rfl,show Nat.beq 4 0=false from rfl,Bool.and_false];rfl
theorem Ec{x:Ob}(h:cX x)(ht:x.b.tag=2){v:Nat}(hv:v<4294967296):cX (x.rf v):=by
 refine⟨?_,h.tag,h.used,h.name,h.next,h.prev,hv,h.hash,h.FB,h.typ,h.len,h.fit⟩;have:=h.right;unfold bn at this⊢;show(Nat.ble x.b.tag 2&&Nat.ble x.b.size 480&& !aW {x.b with refs:=v}&&_)=true;rw[xz x.b v ht];exact this
theorem G.Mq{S:Fw}{m:Mm}(g:G S m){a v:Nat}{x:Ob}(hx:S.ob a=some x)(ht:x.b.tag=2)(hv:v<4294967296):∃m',bE a 11 v m=some m'/\G {S with ob:=Fv S.ob a (some (x.rf v))} m':=by
 obtain⟨_,_,_,_,_,F4⟩:=g.wf.ob a x hx;refine g.R6 hx (f:=11) (b':=(x.rf v).b) (by decide) (by rw[ht];decide) rfl rfl rfl (Ec F4 ht hv) rfl λq hq hn=> ?_;have:q=0\/q=1\/q=2\/q=3\/q=4\/q=5\/q=6\/q=7\/q=8\/q=9\/q=10:=by omega
 rcases this with rfl|rfl|rfl|rfl|rfl|rfl|rfl|rfl|rfl|rfl|rfl<;>rfl
theorem Ob.Of(x:Ob)(v:Nat):OT x (x.rf v):=⟨rfl,rfl,rfl,rfl,rfl,rfl,rfl⟩
theorem tE{ob:Nat->Option Ob}{a:Nat}{x:Ob}(hx:ob a=some x)(v b:Nat):G3 (Fv ob a (some (x.rf v))) b=G3 ob b:=by
 unfold G3;by_cases h:b=a
 ·subst h;rw[ak,hx];rfl
 ·rw[af _ _ h]
theorem tF{ob:Nat->Option Ob}{a:Nat}{x:Ob}(hx:ob a=some x)(v b:Nat):Ii (Fv ob a (some (x.rf v))) b=Ii ob b:=by
 unfold Ii;by_cases h:b=a
 ·subst h;rw[ak,hx];rfl
 ·rw[af _ _ h]
def gM(ob ob':Nat->Option Ob):Prop:=(∀a x,ob a=some x->x.b.tag=1->∃y,ob' a=some y/\OT x y)/\(∀a y,ob' a=some y->y.b.tag=1->∃x,ob a=some x/\OT x y)/\∀a y,ob' a=some y->y.b.tag=2->∃x,ob a=some x/\x.b.tag=2
def my(ob ob':Nat->Option Ob):Prop:=(∀a x,ob a=some x->x.b.tag=1->∃y,ob' a=some y/\OT x y)/\∀a y,ob' a=some y->y.b.tag=1->∃x,ob a=some x/\OT x y
theorem gM.two{ob ob':Nat->Option Ob}(h:gM ob ob'):my ob ob':=⟨h.1,h.2.1⟩
theorem Ij.es{ob ob':Nat->Option Ob}(h:Ij ob ob'):gM ob ob':=⟨λa x hx _=>h.1 a x hx,λa y hy _=>h.back hy,λa y hy ht=>(h.back hy).imp λx k=>⟨k.1,k.2.tag.symm.trans ht⟩⟩
theorem my.trans{ob ob' MZ:Nat->Option Ob}(h:my ob ob')(k:my ob' MZ):my ob MZ:=⟨λa x hx ht=>by
  obtain⟨y,hy,s⟩:=h.1 a x hx ht;obtain⟨z,hz,t⟩:=k.1 a y hy (s.tag.trans ht);exact⟨z,hz,s.trans t⟩,λa z hz ht=>by
  obtain⟨y,hy,t⟩:=k.2 a z hz ht;obtain⟨x,hx,s⟩:=h.2 a y hy (t.tag.symm.trans ht);exact⟨x,hx,s.trans t⟩⟩
theorem gM.trans{ob ob' MZ:Nat->Option Ob}(h:gM ob ob')(k:gM ob' MZ):gM ob MZ:=⟨(h.two.trans k.two).1,(h.two.trans k.two).2,λa z hz ht=>by
  obtain⟨y,hy,t⟩:=k.2.2 a z hz ht;exact h.2.2 a y hy t⟩
structure ik(S S':Fw):Prop where
 Fq:S'.Fq=S.Fq
 slots:S'.slots=S.slots
 root:∀f,15<f->f≠17->S'.root f=S.root f
theorem ik.refl(S:Fw):ik S S:=⟨rfl,rfl,λ_ _ _=>rfl⟩
theorem ik.trans{S S' S'':Fw}(h:ik S S')(k:ik S' S''):ik S S'':=⟨k.Fq.trans h.Fq,k.slots.trans h.slots,λf h1 h2=>(k.root f h1 h2).trans (h.root f h1 h2)⟩
namespace W
variable{S:Fw}{m:Mm}{nm:Nat->List (List UInt8)}{r L ps:List Nat}{ho:Nat}
theorem OU(h:W S m nm r L ps ho)(hp:ps.length<1000){a:Nat}{x:Ob}(hx:S.ob a=some x)(ht:x.b.tag=2):x.b.refs<=4000:=by
 have h1:=(h.rf a x hx ht).1;have h2:=List.count_le_length (a:=a) (l:=L.map (IF S.ob)++ps);have h3:=h.len;rw[List.length_append,List.length_map]at h2;omega
theorem reck(h:W S m nm r L ps ho){a v:Nat}{x:Ob}{ps':List Nat}{m':Mm}(hx:S.ob a=some x)(ht:x.b.tag=2)(g':G {S with ob:=Fv S.ob a (some (x.rf v))} m')
  (hv:v=(L.map (IF S.ob)++ps').count a/\1<=v) (hn:∀b,b≠a->ps'.count b=ps.count b) (hpn:∀p∈ps',Jk S.ob p):W {S with ob:=Fv S.ob a (some (x.rf v))} m' nm r L ps' ho:=by
 have k:=Ij.Fv hx (x.Of v);refine h.Oe (root':=S.root) g' k (h.rg.congr k (tE hx v) (tF hx v) rfl rfl rfl) (λb y hy GL=> ?_) rfl h.now hpn;by_cases e:b=a
 ·subst e;rw[ak]at hy;cases hy;exact hv
 ·rw[af _ _ e]at hy;obtain⟨h1,h2⟩:=h.rf b y hy GL;rw[List.count_append]at h1⊢;rw[hn b e];exact⟨h1,h2⟩
theorem hold(h:W S m nm r L ps ho)(hp:ps.length<1000){a:Nat}{x:Ob}(hx:S.ob a=some x)(ht:x.b.tag=2):
  ∃m' ob',jm a m=some m'/\W {S with ob:=ob'} m' nm r L (a::ps) ho/\Ij S.ob ob':=by
 have hl:=h.OU hp hx ht;obtain⟨m',e,g'⟩:=h.g.Mq hx ht (v:=x.b.refs+1) (by omega);refine⟨m',_,?_,h.reck hx ht g' ⟨?_,by omega⟩ (λb hb=> ?_) (λp hp=> ?_),Ij.Fv hx (x.Of _)⟩
 ·unfold jm iz;rw[h.g.tag hx ht,Fj,h.g.Te hx (by decide),Fj];exact e
 ·rw[(h.rf a x hx ht).1,List.count_append,List.count_append,List.count_cons_self];omega
 ·exact List.count_cons_of_ne (Ne.symm hb)
 ·rcases List.mem_cons.1 hp with e|e
  ·exact .inr ⟨x,by rw[e];exact hx,ht⟩
  ·exact h.pn p e
end W
theorem vO{S:Fw}{m:Mm}(g:G S m){a s i:Nat}(GG:S.At a s i){b t j:Nat}(hb:(S.Gi s a).At b t j)(hf:b∉((S.Gi s a).sl t).free):S.At b t j/\b∉(S.sl t).free/\b≠a:=by
 unfold Fw.Gi at hb hf;split at hb
 ·rename_i hc
  rw[if_pos hc]at hf;have PU:t≠s:=λe=>by
   subst e;have h2:=hb.2.1;have e3:(Fw.sl {(S.FY t 0 [])with ob:=Fv S.ob a none} t)=⟨0,[]⟩:=Fw.Gm _ _ _ _;rw[e3]at h2;rw[Lv.2]at h2;omega
  have e3:(Fw.sl {(S.FY s 0 [])with ob:=Fv S.ob a none} t)=S.sl t:=Fw.Gb _ _ _ PU;have FF:S.At b t j:=by
   unfold Fw.At Fw.ba at hb⊢;rw[e3]at hb;exact hb
  rw[e3]at hf;exact⟨FF,hf,λe=>PU (by subst e;exact(g.inj FF GG).1)⟩
 ·rename_i hc
  rw[if_neg hc]at hf;have e3:∀t,(Fw.sl {(S.FD s (a::(S.sl s).free))with ob:=Fv S.ob a none} t).Ft=(S.sl t).Ft:=λt=>Fw.Gr _ _ _ _;have FF:S.At b t j:=by
   unfold Fw.At Fw.ba at hb⊢;rw[e3]at hb;exact hb
  refine⟨FF,?_⟩;by_cases e:t=s
  ·subst e;have e4:(Fw.sl {(S.FD t (a::(S.sl t).free))with ob:=Fv S.ob a none} t).free=a::(S.sl t).free:=congrArg Sb.free (Fw.FX _ _ _);rw[e4]at hf;exact⟨λk=>hf (List.mem_cons_of_mem _ k),λk=>hf (by rw[k];simp)⟩
  ·have e4:(Fw.sl {(S.FD s (a::(S.sl s).free))with ob:=Fv S.ob a none} t)=S.sl t:=Fw.FU _ _ e;rw[e4]at hf;exact⟨hf,λk=>e (by subst k;exact(g.inj FF GG).1)⟩
theorem Ed{S:Fw}{m:Mm}(g:G S m)(hs:Hs S)(out:∀s,S.out s=false){a:Nat}{x:Ob}(hx:S.ob a=some x):
  ∃m1 m2 S',fa a m=some m1/\jf a m1=some m2/\G S' m2/\Hs S'/\S'.ob=Fv S.ob a none/\S'.root=S.root/\S'.out=S.out/\S'.Fq=S.Fq/\S'.slots=S.slots/\
   ∀b t j,S'.At b t j->b∉(S'.sl t).free->S.At b t j/\b∉(S.sl t).free/\b≠a:=by
 have G6:=(g.FV hx).1;obtain⟨s,i,GG,GF,GI,F4⟩:=g.wf.ob a x hx;obtain⟨m1,T,e1,g1,hv⟩:=g.aab ((hs a G6).2 ⟨x,hx⟩) G6;obtain⟨m2,e2,g2⟩:=g1.give (a:=a) (s:=s) (i:=i) GG GF (out s) (λk=>((hv a G6).1 k).1 rfl);have NP:(Fw.Gi {S with slot:=T} s a).ob=Fv S.ob a none:=by unfold Fw.Gi;split<;>rfl
 have hhas:∀v,v≠0->((Fw.Gi {S with slot:=T} s a).has v↔v≠a/\S.has v):=λv Qi=>by
  rw[<-hv v Qi];unfold Fw.Gi;split<;>rfl
 refine⟨m1,m2,_,e1,e2,g2,λv Qi=> ?_,NP,by unfold Fw.Gi;split<;>rfl,by unfold Fw.Gi;split<;>rfl,by unfold Fw.Gi;split<;>rfl,by unfold Fw.Gi;split<;>rfl,λb t j hb hf=> ?_⟩
 ·rw[hhas v Qi,hs v Qi,NP];constructor
  ·rintro⟨h1,y,hy⟩;exact⟨y,(af _ _ h1).trans hy⟩
  ·rintro⟨y,hy⟩;by_cases e:v=a
   ·subst e;rw[ak]at hy;cases hy
   ·rw[af _ _ e]at hy;exact⟨e,y,hy⟩
 ·exact vO (S:= {S with slot:=T}) g1 (a:=a) (s:=s) (i:=i) GG hb hf
end Go.FC
