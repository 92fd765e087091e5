/-
  Lemmas on the way to the row. No condition beyond their own.
-/
import Derived.Test.YtifkphcaelafjaaGreatDoorQ13
set_option maxHeartbeats 25600000
set_option maxRecDepth 100000
set_option linter.unusedVariables false
set_option linter.unusedSimpArgs false
namespace Go.Proofs.YtifkphcaelafjaaGreatDoor
open Tryz
open Go.RowKit Go.Colm Go.FC Go.Maps Go.FP Go.Fy Go.Fz
theorem iM{B n c:Nat}{A:Option Addr}{W:World}{l:List Bool}(h:W.ownsRow B 4 1 (.slice A n c) n (bp l)):bR A l W.heap.size W:=λi x hx=>by
 have hn:n=l.length:=by have:=h.1;rw[lx]at this;omega
 have hi:=(List.getElem?_eq_some_iff.1 hx).1;obtain⟨g,rfl,hg,hc,hh⟩:=bC h (by omega) (by decide);exact⟨g,0,rfl,(aF h (k:=g) rfl).2,by rw[Nat.zero_add];exact hh i _ (ly hx)⟩
theorem vr(A C:Option Addr)(a c:Nat)(w:World):Calls prog 363 #[.slice A 0 a,.slice C 0 c,.int .i64 0] w λe w'=>e= .returned (.tuple #[.int .i64 0,.slice none 0 0,.int .i64 2])/\w'=w:=by
 have hr:=nT 0 0 w;rw[if_pos (.inl rfl)]at hr;have HR:=Fh hr;clear hr;go_in;go_wp2_with fail;refine HR.o.mono ?_;rintro e w1⟨rfl,FJ⟩;have FL:=FJ.symm;subst FL;go_wp2;go_ret3;exact⟨rfl,rfl⟩
theorem tq(l:List (Nat×Bool)):eV (List.range l.length) (Kw l) (Ls l)=Ge l:=by
 have key:∀(l:List (Nat×Bool)) (k:Nat) (f:Nat->Bool),(∀i,i<l.length->f (k+i)= !(decide ((l.getD i (0,false)).1=1)&& !(l.getD i (0,false)).2))->((List.range l.length).map (k+ ·)).findIdx f=Ge l:=by
  intro l
  induction l with
  |nil=>intro k f _;rfl
  |cons q l ih=>
   intro k f hf;have h0:=hf 0 (by simp);have e0:(q::l).getD 0 (0,false)=q:=rfl;rw[e0,Nat.add_zero]at h0;rw[List.length_cons,List.range_succ_eq_map,List.map_cons,List.findIdx_cons,Nat.add_zero,h0,Ge];by_cases c:q.1=1/\q.2=false
   ·rw[if_pos c];have e1:(!(decide (q.1=1)&& !q.2))=false:=by rw[c.2,decide_eq_true c.1];rfl
    rw[e1];simp only [cond_false];have:=ih (k+1) f λi hi=>by
     have:=hf (i+1) (by simp;omega);rw[show k+1+i=k+(i+1)by omega,this];rfl
    rw[<-this];congr 2;rw[List.map_map];apply List.map_congr_left;intro x _;show k+(x+1)=k+1+x;omega
   ·rw[if_neg c];have e1:(!(decide (q.1=1)&& !q.2))=true:=by
     by_cases c1:q.1=1
     ·have c2:q.2=true:=by
       cases e:q.2
       ·exact absurd ⟨c1,e⟩ c
       ·rfl
      rw[c2,decide_eq_true c1];rfl
     ·rw[decide_eq_false c1];rfl
    rw[e1];rfl
 have:=key l 0 (λi=> !((Kw l).getD i false&& !(Ls l).getD i false)) λi hi=>by
  rw[Nat.zero_add];unfold Kw Ls;simp only [List.getD_eq_getElem?_getD,List.getElem?_map,Fl hi,Option.map_some,Option.getD_some]
 unfold eV;rw[<-this];congr 1;simp
theorem DZ(l:List (Nat×Bool)):mm (Kw l) (Ls l)=cB l:=by
 have hl:(Kw l).length=l.length:=List.length_map _;unfold mm cB;rw[hl,tq];have:Ge l<=l.length:=by rw[<-tq];exact Nat.le_trans List.findIdx_le_length (by simp)
 by_cases h:Ge l=l.length
 ·rw[if_neg (by omega),if_pos h]
 ·rw[if_pos (by omega),if_neg h]
theorem yB(us:List Bool):∀(k i:Nat),k<=us.length->(SF us ((List.range us.length).take k))[i]? =if i<k then some false else us[i]?
 |0,i,_=>by rw[if_neg (by omega)];rfl
 |k+1,i,h=>by
  have hr:(List.range us.length).take (k+1)=(List.range us.length).take k++ [k]:=by
   rw[List.take_add_one];rw[List.getElem?_range (by omega)];rfl
  rw[hr,vn,List.getElem?_set,yB us k i (by omega),JX];by_cases e:k=i
  ·subst e;rw[if_pos rfl,if_pos (by omega),if_pos (by omega)]
  ·rw[if_neg e];by_cases c:i<k
   ·rw[if_pos c,if_pos (by omega)]
   ·rw[if_neg c,if_neg (by omega)]
section
variable{O:av}{μ:Mm}{w:World}
theorem tr(h:ao O μ w)(va:Value)(n:Nat)(Au Ao:Option Addr)(cu co:Nat)(us os:List Bool)(hu:bR Au us w.heap.size w)(ho:bR Ao os w.heap.size w)(VV:us.length=n)(hon:os.length=n)(hl:n<=100000)(hva:∃A c,va= .slice A n c):
  Calls prog 351 #[.agg #[.pointer (some ⟨O.mb,0,none⟩),va,.slice Au n cu,.slice Ao n co]] w λe w'=>(if n=0 then e= .returned (.tuple #[.int .i64 0,.slice none 0 0,.bool false])else∃vu,e= .returned (.tuple #[.int .i64 (mm us os:Nat),vu,.bool true])/\w'.ownsRow w.heap.size 4 1 vu n (bp (nU us os)))/\MG O w μ w':=by
 obtain⟨Aa,ca,rfl⟩:=hva;obtain⟨w0,Fx⟩:=Fp (w.alloc (.cells #[.pointer (some ⟨O.mb,0,none⟩),.slice Aa n ca,.slice Au n cu,.slice Ao n co] 366));have FM:Below w.heap.size w w0:=by rw[Fx];exact(Below.refl _ w).alloc (Fm _) _
 have JH:Whole w0 w.heap.size 366 #[.pointer (some ⟨O.mb,0,none⟩),.slice Aa n ca,.slice Au n cu,.slice Ao n co]:=by rw[Fx];exact Whole.new w _ _
 obtain⟨rb,H9⟩:=Fp w.heap.size;rw[<-H9]at JH;have x2:=JH.cell 2;have x3:=JH.cell 3;have IK:aa (λk=>w.heap.size<=k) w w0:=aa.below FM _;have FE:=Fh ((MG.refl h).below FM);by_cases h0:n=0
 ·subst h0;have HN:=Fh (vr Au Ao cu co w0);simp only [if_true];clear h hu ho VV hon FM JH IK;go_in;go_upto_region 1 with fail;rw[<-Fx,<-H9];clear Fx H9;go_wp2_with fail;refine HN.o.mono ?_;rintro e w1⟨rfl,FJ⟩;have FL:=FJ.symm;subst FL;go_wp2;go_ret3;exact⟨rfl,FE.o⟩
 ·have Rl:=(hu.kept IK);have ho0:=(ho.kept IK);have up:∀ {A l},bR A l w.heap.size w0->bR A l w0.heap.size w0:=λhx i x hi=>by
   obtain⟨g,o,e,h1,h2⟩:=hx i x hi;exact⟨g,o,e,Nat.lt_of_lt_of_le h1 IK.size,h2⟩
  have hn:=xr (cu:=cu) (co:=co) (up Rl) (up ho0) (by intro e;rw[e]at VV;simp at VV;omega) (by omega) (by omega);rw[VV,hon]at hn;have HN:=Fh hn;have HS:=Fh IK.size;obtain⟨N,hN⟩:=Fp (mm us os);rw[<-hN]at HN⊢;simp only [h0,if_false];clear h hu ho VV hon FM JH IK Rl ho0 up hn hN;go_in;go_upto_region 1 with fail;rw[<-Fx,<-H9];clear Fx H9;go_wp2_with fail;refine HN.o.mono ?_;rintro e w1⟨vu,rfl,NH,FN⟩;have HO:=Fh (aS NH HS.o);have FA:=Fh (FE.o.below FN);clear NH FN;go_wp2;go_ret3;exact⟨⟨_,rfl,HO.o⟩,FA.o⟩
end
theorem bR.mg{O:av}{μ:Mm}{A:Option Addr}{l:List Bool}{B:Nat}{W W':World}(h:bR A l B W)(hn:∀a,A=some a->¬au O a.block)(k:MG O W μ W'):bR A l B W':=λi x hx=>by
 obtain⟨g,o,e,h1,h2⟩:=h i x hx;exact⟨g,o,e,h1,k.kept.cell h2 (hn ⟨g,o,none⟩ e)⟩
def rS(A:Option Addr)(l:List Nat)(W:World):Prop:=∀(i x:Nat),l[i]? =some x->∃g o,A=some ⟨g,o,none⟩/\W.cell? ⟨g,o+i,none⟩=some (.int .i64 (x:Int))
theorem rS.mg{O:av}{μ:Mm}{A:Option Addr}{l:List Nat}{W W':World}(h:rS A l W)(hn:∀a,A=some a->¬au O a.block)(k:MG O W μ W'):rS A l W':=λi x hx=>by
 obtain⟨g,o,e,h2⟩:=h i x hx;exact⟨g,o,e,k.kept.cell h2 (hn ⟨g,o,none⟩ e)⟩
section
variable{O:av}{μ:Mm}{w:World}
theorem LM:∀(l:List (Nat×Bool)) (i:Nat),i<Ge l->∃q,l[i]? =some q/\q.1=1/\q.2=false
 | [],i,h=>by cases h
 |q::l,i,h=>by
  rw[Ge]at h;by_cases c:q.1=1/\q.2=false
  ·rw[if_pos c]at h;cases i with
   |zero=>exact⟨q,rfl,c⟩
   |succ i=>
    obtain⟨q',h1,h2⟩:=LM l i (by omega);exact⟨q',h1,h2⟩
  ·rw[if_neg c]at h;omega
theorem Hw:∀l:List (Nat×Bool),Ge l<=l.length
 | []=>Fm _
 |q::l=>by
  have:=Hw l;rw[Ge,List.length_cons];split<;>omega
theorem xt(h:ao O μ w)(all:List Nat)(l:List (Nat×Bool))(m1 m2:Mm)(hlen:l.length=all.length)(Aa Au Ao Av:Option Addr)(ca cu co cv:Nat)(Nk:all.length<=100000)(FR:∀x∈all,x<4294967296)
  (ha:rS Aa all w) (hu:bR Au (Kw l) w.heap.size w) (hv:bR Av (nU (Kw l) (Ls l)) w.heap.size w) (na:∀a,Aa=some a->¬au O a.block) (nu:∀a,Au=some a->¬au O a.block) (nv:∀a,Av=some a->¬au O a.block)
  (hp:J4 all (Ge l) μ=some m1) (ht:kZ 13 (cB l) m1=some m2):
  Calls prog 352 #[.agg #[.pointer (some ⟨O.mb,0,none⟩),.slice Aa all.length ca,.slice Au all.length cu,.slice Ao all.length co],.int .i64 (cB l:Nat),.slice Av all.length cv] w λe w'=>e= .returned (.tuple #[])/\MG O w m2 w':=by
 obtain⟨w0,Fx⟩:=Fp (w.alloc (.cells #[.pointer (some ⟨O.mb,0,none⟩),.slice Aa all.length ca,.slice Au all.length cu,.slice Ao all.length co] 366));have FM:Below w.heap.size w w0:=by rw[Fx];exact(Below.refl _ w).alloc (Fm _) _
 have GK:MG O w μ w0:=(MG.refl h).below FM;have JH:Whole w0 w.heap.size 366 #[.pointer (some ⟨O.mb,0,none⟩),.slice Aa all.length ca,.slice Au all.length cu,.slice Ao all.length co]:=by rw[Fx];exact Whole.new w _ _
 obtain⟨rb,H9⟩:=Fp w.heap.size;have Tx:¬au O rb:=by rw[H9];exact h.Fu (Fm _)
 rw[<-H9]at JH;have HGG:Hid (∀W m,MG O w0 m W->MG O w m W/\Whole W rb 366 #[.pointer (some ⟨O.mb,0,none⟩),.slice Aa all.length ca,.slice Au all.length cu,.slice Ao all.length co]/\rS Aa all W/\bR Au (Kw l) w.heap.size W/\bR Av (nU (Kw l) (Ls l)) w.heap.size W):=Fh λW m k=>
  ⟨GK.trans k,k.kept.whole JH Tx,ha.mg na (GK.trans k),hu.mg nu (GK.trans k),hv.mg nv (GK.trans k)⟩
 obtain⟨n,hn⟩:=Fp all.length;have HN:=Fh hn;have HH:=Fh h;have H0:=Fh ((MG.refl GK.has));have HP:=Fh hp;have HT:=Fh ht;have QK:=Fh FR;have L0:Hid (l.length=n):=Fh (by rw[hlen,hn]);rw[<-hn]at Nk;simp only [<-hn]at HGG Fx JH⊢;have x1:=JH.cell 1;have RW:=Hw l;obtain⟨K,hK⟩:=Fp (cB l);have hKn:K<=n:=by rw[hK];unfold cB;split<;>omega
 have HK:=Fh hK;rw[<-hK];clear h ha hu hv na nu nv hp ht FM GK JH Tx FR hn hlen RW hK;go_in;go_upto_region 1 with fail;rw[<-Fx,<-H9];clear Fx H9;go_wp2_with fail
 go_loopw [6,7,11] (λ_ _ La W=>∃(j:Nat) (m:Mm),j<=n/\La= .int .i64 j/\Hid (MG O w0 m W)/\Hid (J4 (all.drop j) (Ge l-j) m=some m1)) (λ_ _ La W=>match La with| .int _ m=>n-m.toNat|_=>0)
 case atStart=>exact⟨0,μ,Nat.zero_le _,rfl,H0,HP⟩
 case round=>
  obtain⟨j,m,hj,rfl,HGJ,HPJ⟩:=hrel;obtain⟨g1,g2,g3,g4,g5⟩:=HGG.o _ _ HGJ.o;by_cases FR:j<n
  ·obtain⟨a,ha⟩:∃a,all[j]? =some a:=⟨_,Fl (by have:=HN.o;omega)⟩;have I7:=QK.o a (List.mem_of_getElem? ha);obtain⟨ga,oa,rfl,Lr⟩:=g3 j a ha;obtain⟨q,hq⟩:∃q,l[j]? =some q:=⟨_,Fl (by have:=L0.o;omega)⟩;have hqu:(Kw l)[j]? =some (decide (q.1=1)):=by unfold Kw;rw[List.getElem?_map,hq];rfl
   have NX:(nU (Kw l) (Ls l))[j]? =if j<Ge l then some false else some (decide (q.1=1)):=by
    have Pr:(Kw l).length=l.length:=List.length_map _;have hle:=Hw l;unfold nU;rw[Pr,tq,<-Pr,yB _ _ _ (by omega),hqu]
   obtain⟨gu,ou,rfl,_,hcu⟩:=g4 j _ hqu;have hdr:all.drop j=a::all.drop (j+1):=by
    rw[List.drop_eq_getElem_cons (by have:=HN.o;omega)];rw[Fl (by have:=HN.o;omega)]at ha;rw[Fk ha]
   have Yl:=HPJ.o;rw[hdr]at Yl;have x2:=g2.cell 2;have x0:=g2.cell 0;have x0d:wr.drew.cell? ⟨rb,0,none⟩=some (.pointer (some ⟨O.mb,0,none⟩)):=x0;have b0:(0:Int)<=(j:Int):=by omega
   have b1:(j:Int)<(n:Int):=by omega
   have J2:=HGJ.o.drew;by_cases Hz:j<Ge l
   ·rw[if_pos Hz]at NX;obtain⟨gv,ov,rfl,_,hcv⟩:=g5 j _ NX;obtain⟨q',hq',Jm,_⟩:=LM l j Hz;have e1:q'=q:=by rw[hq]at hq';exact(Fk hq').symm
    subst e1;rw[decide_eq_true Jm]at hcu;rw[show Ge l-j=Ge l-(j+1)+1 by omega,J4]at Yl;obtain⟨m',Ym,hr'⟩:=Fi Yl;have HR':=Fh hr';have Rf:=λW (hg:MG O w0 m W)=>(yq hg.has a 0 false m' I7 (Nat.zero_le _) rfl Ym).mono λe w' hq=>(⟨_,hq.1,rfl,hg.trans hq.2⟩:∃x,e= .returned x/\x= .int .i64 0/\MG O w0 m' w');have Tu:=Fh Rf;clear ha hq hqu NX g1 g2 g3 g4 g5 Yl Ym hr' hq' Jm Rf Hz hdr;go_wp2_with fail
    go_region
    all_goals
     go_wp2_with fail
     go_region_law (
      (refine aX rfl 115 #[.pointer (some ⟨O.mb,0,none⟩),.int .i64 (a:Int),.bool false] ?_ _ (Tu.o _ J2.drew) ?_
       ·(go_simp;done)
       rintro v5 w5⟨rfl,Ik⟩;have Qr:=Fh Ik;clear Ik))
     all_goals
      go_wp2_with fail;exact⟨⟨j+1,m',by omega,by go_num,Qr,HR'⟩,by simp;omega⟩
   ·rw[if_neg Hz]at NX;obtain⟨gv,ov,rfl,_,hcv⟩:=g5 j _ NX;have e0:Ge l-j=0:=by omega
    have hpj2:J4 (all.drop (j+1)) (Ge l-(j+1)) m=some m1:=by
     rw[e0]at Yl;have e9:Ge l-(j+1)=0:=by omega
     rw[e9];have p0:∀(l:List Nat),J4 l 0 m=some m:=λl=>by cases l<;>rfl
     rw[p0]at Yl⊢;exact Yl
    have HPJ2:=Fh hpj2;obtain⟨b,hb⟩:=Fp (decide (q.1=1));rw[<-hb]at hcu hcv;clear ha hq hqu NX g1 g2 g3 g4 g5 Yl Hz hdr hpj2 e0 hb;have HGD:=Fh J2;clear J2;cases b with
    |true=>
     go_wp2_with fail
     go_region
     all_goals
      go_wp2_with fail;exact⟨⟨j+1,m,by omega,by go_num,HGD,HPJ2⟩,by simp;omega⟩
    |false=>
     go_wp2_with fail
     go_region
     all_goals
      go_wp2_with fail;exact⟨⟨j+1,m,by omega,by go_num,HGD,HPJ2⟩,by simp;omega⟩
  ·have Ul:j=n:=by omega
   subst Ul;have hpe:=HPJ.o;rw[List.drop_eq_nil_of_le (by have:=HN.o;omega)]at hpe;have hme:m=m1:=by
    cases e:Ge l-j with
    |zero=>rw[e]at hpe;exact Fk hpe
    |succ k=>rw[e]at hpe;exact Fk hpe
   subst hme;clear hpe g1 g3 g4 g5 g2;have b2:decide ((j:Int)<(j:Int))=false:=by simp
   go_wp2_with fail
   go_loopw [36] (λTQ W=>∃(i:Nat) (m:Mm),i<=K/\TQ= .int .i64 i/\Hid (MG O w0 m W)/\Hid (kZ 13 (K-i) m=some m2)) (λTQ W=>match TQ with| .int _ m=>K-m.toNat|_=>0)
   case atStart=>exact⟨0,m,Nat.zero_le _,rfl,HGJ,Fh (by rw[HK.o,Nat.sub_zero];exact HT.o)⟩
   case round=>
    obtain⟨i,mi,hi,rfl,Uw,HTI⟩:=hrel;obtain⟨g1,g2,_⟩:=HGG.o _ _ Uw.o;have y0:=g2.cell 0;by_cases VP:i<K
    ·have hti:=HTI.o;rw[show K-i=K-(i+1)+1 by omega,kZ]at hti;obtain⟨q,hq,hr⟩:=Fi hti;have HTU:=Fh (BO Uw.o.has q.1 q.2 hq);have HR:=Fh hr;clear g1 g2 hti hq hr;go_wp2_with fail;refine HTU.o.mono ?_;rintro e w5⟨rfl,IB⟩;have Gj:=Fh (Uw.o.trans IB);clear IB;go_wp2_with fail;exact⟨⟨i+1,q.2,by omega,by go_num,Gj,HR⟩,by simp;omega⟩
    ·have UF:i=K:=by omega
     subst UF;have hte:=HTI.o;rw[Nat.sub_self]at hte;have hme:mi=m2:=Fk hte;subst hme;have FA:=Fh g1;clear g1 g2 hte;go_wp2;go_end0;exact⟨rfl,FA.o⟩
end
section
variable{O:av}{μ:Mm}{w:World}
theorem ia(h:ao O μ w){t a:Nat}{b:Bk}(hv:eD t a μ=some b):a<4294967000:=by
 obtain⟨q,h1,h5⟩:=Fi hv;have hs:=h.GX;unfold da at h1;obtain⟨y,h2,h3⟩:=Fi h1;by_cases c:y.2≠5/\y.2≠6
 ·rw[if_pos c]at h3;obtain rfl:=Fk h3;rw[if_neg (by intro e;cases e.1)]at h5;cases h5
 ·have hk:μ.FH a 4≠0:=by
   intro e;unfold dB at h2;rw[e,if_neg (by decide)]at h2;obtain rfl:=Fk h2;exact c ⟨by decide,by decide⟩
  unfold Mm.FH at hk;by_cases c2:4<1\/μ.size<a+4
  ·rw[if_pos c2]at hk;exact absurd rfl hk
  ·omega
theorem yC(h:ao O μ w)(a:Nat)(q:Ky×Mm)(ha:a<4294967296)(hv:tU a μ=some q):Calls prog 109 #[.pointer (some ⟨O.mb,0,none⟩),.int .i64 (a:Int)] w λe w'=>e= .returned (.agg #[.string ⟨(cY q.1.1).1.toArray⟩,.int .u16 (q.1.2:Int)])/\MG O w q.2 w':=by
 obtain⟨o,h1,F6⟩:=Fi hv;obtain⟨m1,h2,F0⟩:=Fi F6;obtain⟨x,h3,GM⟩:=Fi F0;obtain⟨m2,h4,h5⟩:=Fi GM;obtain rfl:=Fk h5;dsimp only;obtain⟨w0,Fx⟩:=Fp (w.alloc (.cells #[.string ⟨#[]⟩,.int .u16 0] 40));have GK:MG O w μ w0:=by rw[Fx];exact(MG.refl h).alloc _
 have JH:Whole w0 w.heap.size 40 #[.string ⟨#[]⟩,.int .u16 0]:=by rw[Fx];exact Whole.new w _ _
 obtain⟨zb,Mp⟩:=Fp w.heap.size;rw[<-Mp]at JH;have nzb:¬au O zb:=by rw[Mp];exact h.Fu (Fm _)
 have RX:=Fh (pG GK.has a o ha h1);have HCT:=Fh (λW (hg:MG O w0 μ W)=>vi hg.has (if o=true then 19 else 18) m1 (by split<;>decide) (by split<;>decide) h2);have hit:∀W,MG O w0 m1 W->a<4294967000:=λW hg=>by
  obtain⟨b,hb,_⟩:=Fi h3;exact ia hg.has hb
 have hie:=λW (hg:MG O w0 m1 W)=>Cw hg.has a x (hit W hg) h3;obtain⟨tx,GQ⟩:∃tx:ByteArray,tx=⟨(cY x.name).1.toArray⟩:=⟨_,rfl⟩;rw[<-GQ];simp only [<-GQ]at hie;have HIE:=Fh hie;have ZB:=Fh (λW (hg:MG O w0 m1 W)=>tg hg.has a m2 ha h4);have HZ:=Fh (λW m (hg:MG O w0 m W)=>hg.kept.whole JH nzb);have TA:=Fh GK;have HH:=Fh h;have WY:=Fh Mp;have FE:=Fh (MG.refl GK.has);obtain⟨f,hf⟩:∃f:Nat,f=if o=true then 19 else 18:=⟨_,rfl⟩
 clear h hv F6 F0 GM h1 h2 h3 h4 hit hie GQ GK JH nzb hf f;cases o with
 |true=>
  simp only [if_true]at HCT;go_in;go_upto_region 1 with fail;rw[<-Fx,<-Mp];clear Fx Mp;go_wp2_with fail;refine RX.o.mono ?_;rintro e w1⟨rfl,hg⟩;have FA:=Fh (FE.o.trans hg);clear hg;go_wp2_with fail;refine(HCT.o _ FA.o).mono ?_;rintro e w2⟨rfl,hg⟩;have FK:=Fh (FA.o.trans hg);clear hg;go_wp2_with fail;refine(HIE.o _ FK.o).mono ?_;rintro e w3⟨v,us,rfl,Jq,FZ⟩;obtain⟨A3,GM,-⟩:=Jq.at_;subst GM;obtain⟨w4,Hn⟩:=Fp (w3.alloc (.cells #[.string tx,.int .u16 (x.typ:Int),.slice A3 x.recs.length x.recs.length,.int .u64 (x.FB:Int),.bool (decide (x.used=1))] 249));obtain⟨ib,OL⟩:=Fp w3.heap.size;have I8:Whole w4 ib 249 #[.string tx,.int .u16 (x.typ:Int),.slice A3 x.recs.length x.recs.length,.int .u64 (x.FB:Int),.bool (decide (x.used=1))]:=by rw[Hn,OL];exact Whole.new w3 _ _
  have FW:Hid (MG O w0 m1 w4):=Fh (by rw[Hn];exact(FK.o.trans FZ).alloc _);have nib:¬au O ib:=by
   rw[OL];exact HH.o.Fu (Nat.le_trans TA.o.kept.size (FK.o.trans FZ).kept.size)
  have I4:=Fh I8;have HNI:=Fh nib;clear Jq FZ I8 nib;go_upto_region 5 with fail;rw[<-Hn,<-OL];clear Hn OL;go_wp2_with fail;refine(ZB.o _ FW.o).mono ?_;rintro e w5⟨⟨n5,rfl⟩,IB⟩;have SI:=IB.kept.whole I4.o HNI.o;have Gj:=Fh (FW.o.trans IB);have SJ:=HZ.o _ _ Gj.o;have y0:w5.cell? ⟨ib,0,none⟩=some (.string tx):=SI.cell 0;have y1:w5.cell? ⟨ib,1,none⟩=some (.int .u16 (x.typ:Int)):=SI.cell 1;have z0:=SJ.cell 0;have z1:=SJ.cell 1;have f0:=SJ.frozen 0;have f1:=SJ.frozen 1;have Rk:=Fh SJ;clear IB SI SJ;go_wp2_with fail;refine bodyPost_ret (results_cell_row rfl _ _ zb 40 _ (0,0) _ rfl (bY Rk.o _ _) underlying40 rfl (by kernel_rfl)) rfl ?_;have kz:aa (λk=>k=zb) w5 ((w5.setCell ⟨zb,0,none⟩ (.string tx)).setCell ⟨zb,1,none⟩ (.int .u16 (x.typ:Int))):=
   ((aa.refl (λk=>k=zb) w5).setCell (p:=⟨zb,0,none⟩) (.inl rfl) _).setCell (p:=⟨zb,1,none⟩) (.inl rfl) _
  exact⟨rfl,MG.beside HH.o (TA.o.trans Gj.o) kz λk e=>by rw[e,WY.o];exact Fm _⟩
 |false=>
  simp only [Bool.false_eq_true,if_false]at HCT;go_in;go_upto_region 1 with fail;rw[<-Fx,<-Mp];clear Fx Mp;go_wp2_with fail;refine RX.o.mono ?_;rintro e w1⟨rfl,hg⟩;have FA:=Fh (FE.o.trans hg);clear hg;go_wp2_with fail;refine(HCT.o _ FA.o).mono ?_;rintro e w2⟨rfl,hg⟩;have FK:=Fh (FA.o.trans hg);clear hg;go_wp2_with fail;refine(HIE.o _ FK.o).mono ?_;rintro e w3⟨v,us,rfl,Jq,FZ⟩;obtain⟨A3,GM,-⟩:=Jq.at_;subst GM;obtain⟨w4,Hn⟩:=Fp (w3.alloc (.cells #[.string tx,.int .u16 (x.typ:Int),.slice A3 x.recs.length x.recs.length,.int .u64 (x.FB:Int),.bool (decide (x.used=1))] 249));obtain⟨ib,OL⟩:=Fp w3.heap.size;have I8:Whole w4 ib 249 #[.string tx,.int .u16 (x.typ:Int),.slice A3 x.recs.length x.recs.length,.int .u64 (x.FB:Int),.bool (decide (x.used=1))]:=by rw[Hn,OL];exact Whole.new w3 _ _
  have FW:Hid (MG O w0 m1 w4):=Fh (by rw[Hn];exact(FK.o.trans FZ).alloc _);have nib:¬au O ib:=by
   rw[OL];exact HH.o.Fu (Nat.le_trans TA.o.kept.size (FK.o.trans FZ).kept.size)
  have I4:=Fh I8;have HNI:=Fh nib;clear Jq FZ I8 nib;go_upto_region 5 with fail;rw[<-Hn,<-OL];clear Hn OL;go_wp2_with fail;refine(ZB.o _ FW.o).mono ?_;rintro e w5⟨⟨n5,rfl⟩,IB⟩;have SI:=IB.kept.whole I4.o HNI.o;have Gj:=Fh (FW.o.trans IB);have SJ:=HZ.o _ _ Gj.o;have y0:w5.cell? ⟨ib,0,none⟩=some (.string tx):=SI.cell 0;have y1:w5.cell? ⟨ib,1,none⟩=some (.int .u16 (x.typ:Int)):=SI.cell 1;have z0:=SJ.cell 0;have z1:=SJ.cell 1;have f0:=SJ.frozen 0;have f1:=SJ.frozen 1;have Rk:=Fh SJ;clear IB SI SJ;go_wp2_with fail;refine bodyPost_ret (results_cell_row rfl _ _ zb 40 _ (0,0) _ rfl (bY Rk.o _ _) underlying40 rfl (by kernel_rfl)) rfl ?_;have kz:aa (λk=>k=zb) w5 ((w5.setCell ⟨zb,0,none⟩ (.string tx)).setCell ⟨zb,1,none⟩ (.int .u16 (x.typ:Int))):=
   ((aa.refl (λk=>k=zb) w5).setCell (p:=⟨zb,0,none⟩) (.inl rfl) _).setCell (p:=⟨zb,1,none⟩) (.inl rfl) _
  exact⟨rfl,MG.beside HH.o (TA.o.trans Gj.o) kz λk e=>by rw[e,WY.o];exact Fm _⟩
end
theorem mq{fn:Func}{p u v:Tmp}{ty:TypeId}(h:fn.results= #[.cell p ty,.tmp u,.tmp v])(tmps:Array Value)(P:Program)(w:World):
  (results fn tmps).run P w=((asAddr (tmps.getD p undef)).run P w).andThen λa w₁=>((loadVar ty a).run P w₁).andThen λx w₂=> .ok (.tuple #[x,tmps.getD u undef,tmps.getD v undef]) w₂:=by
 simp only [results,h];simp[Sem.run_bind,Result.andThen]
theorem gC{P:Program}{fn:Func}{p u v:Tmp}{ty:TypeId}(h:fn.results= #[.cell p ty,.tmp u,.tmp v])(tmps:Array Value)(w:World)(g:Nat)(t:TypeId)(cs:Array Value)(fr:Nat×Nat)(d:TypeDesc)
  (hp:tmps.getD p undef= .pointer (some ⟨g,0,none⟩)) (hg:w.heap[g]? =some (.cells cs t fr))
  (hu:P.underlying ty=some d) (hd:(match d with| .struct _| .array _ _=>true|_=>false)=true) (hi:(P.info? ty).map (·.size)=some cs.size):
  (results fn tmps).run P w= .ok (.tuple #[.agg cs,tmps.getD u undef,tmps.getD v undef]) w:=by
 rw[mq h,hp];simp[asAddr,run_loadVar_row w g t ty cs fr d hg hu hd hi,Result.andThen]
def Fb(k:Ky):Value:= .agg #[.string ⟨(cY k.1).1.toArray⟩,.int .u16 (k.2:Int)]
def evV:Option (Ky×Bool)->Value
 |none=> .tuple #[.agg #[.string ⟨#[]⟩,.int .u16 0],.bool false,.int .i64 7]
 |some q=> .tuple #[Fb q.1,.bool q.2,.int .i64 0]
section
variable{O:av}{μ:Mm}{w:World}
theorem CC(h:ao O μ w)(q:Option (Ky×Bool)×Mm)(hv:jI μ=some q):Calls prog 321 #[.pointer (some ⟨O.mb,0,none⟩)] w λe w'=>e= .returned (evV q.1)/\MG O w q.2 w':=by
 obtain⟨all,h1,F6⟩:=Fi hv;obtain⟨l,h2,F0⟩:=Fi F6;obtain⟨G1,Ib⟩:=nw h2;have Nk:all.length<=100000:=by
  obtain⟨a',e1,e2⟩:=Fi h1;by_cases c:100000<a'.length
  ·rw[if_pos c]at e2;cases e2
  ·rw[if_neg c]at e2;rw[<-Fk e2];omega
 have FR:∀x∈all,x<4294967296:=by
  obtain⟨a',e1,e2⟩:=Fi h1;by_cases c:100000<a'.length
  ·rw[if_pos c]at e2;cases e2
  ·rw[if_neg c]at e2;rw[<-Fk e2];exact nW e1
 obtain⟨w0,Fx⟩:=Fp (w.alloc (.cells #[.string ⟨#[]⟩,.int .u16 0] 40));have GK:MG O w μ w0:=by rw[Fx];exact(MG.refl h).alloc _
 have JH:Whole w0 w.heap.size 40 #[.string ⟨#[]⟩,.int .u16 0]:=by rw[Fx];exact Whole.new w _ _
 obtain⟨zb,Mp⟩:=Fp w.heap.size;rw[<-Mp]at JH;have nzb:¬au O zb:=by rw[Mp];exact h.Fu (Fm _)
 have HC:=Fh (aD GK.has);have G5:=h.cf;have z:¬((μ.Fq:Int)=0):=by omega
 have zz:¬(μ.Fq=0):=by omega
 have NB:=Fh (λW (hg:MG O w0 μ W)=>DY hg.has all l h1 h2);have TA:=Fh GK;have HH:=Fh h;have WY:=Fh Mp;have FE:=Fh (MG.refl GK.has);have HZ:=Fh (λW m (hg:MG O w0 m W)=>hg.kept.whole JH nzb);have Qn:=Fh F0;have L0:=Fh G1;have QK:=Fh FR;have HAL:=Fh Nk;have HGET:=Fh Ib;have hul:(Kw l).length=all.length:=(List.length_map _).trans G1;have hol:(Ls l).length=all.length:=(List.length_map _).trans G1;have HUL:=Fh hul;have HOL:=Fh hol;clear h hv F6 F0 h1 h2 GK JH nzb G5 G1 Ib FR Nk hul hol;go_in;go_upto_region 1 with fail;rw[<-Fx,<-Mp];clear Fx Mp;go_wp2_with fail;refine HC.o.mono ?_;rintro e w1⟨rfl,hb⟩;have FA:=Fh (FE.o.below hb);clear hb;go_wp2_with fail;refine(NB.o _ FA.o).mono ?_;rintro e w2⟨va,vu,vo,rfl,Rm,VT,hoo,Gg⟩;have g2:=FA.o.trans Gg;obtain⟨Aa,ca,rfl⟩:=aw Rm;obtain⟨Au,cu,rfl⟩:=aw VT;obtain⟨Ao,co,rfl⟩:=aw hoo;have Nh:w.heap.size<=w1.heap.size:=Nat.le_trans TA.o.kept.size FA.o.kept.size;obtain⟨w3,F7⟩:=Fp (w2.alloc (.cells #[.pointer (some ⟨O.mb,0,none⟩),.slice Aa all.length ca,.slice Au all.length cu,.slice Ao all.length co] 366));obtain⟨rb,H9⟩:=Fp w2.heap.size;have k3:aa (λ_=>False) w2 w3:=by rw[F7];exact(aa.refl _ _).alloc _
 have g3:MG O w0 μ w3:=by rw[F7];exact g2.alloc _
 have Ma:Whole w3 rb 366 #[.pointer (some ⟨O.mb,0,none⟩),.slice Aa all.length ca,.slice Au all.length cu,.slice Ao all.length co]:=by rw[F7,H9];exact Whole.new w2 _ _
 have Tx:¬au O rb:=by rw[H9];exact HH.o.Fu (Nat.le_trans TA.o.kept.size g2.kept.size)
 have hoa3:=aj (aS Rm Nh) k3 λ_ _=>id;have ZT:=aj (aS VT Nh) k3 λ_ _=>id;have ZU:=aj (aS hoo Nh) k3 λ_ _=>id;have FT:=Fh g3;have Pt:=Fh Ma;have HNR:=Fh Tx;have HOA:=Fh hoa3;have VU:=Fh ZT;have HOO:=Fh ZU;have na:Hid (∀a,Aa=some a->¬au O a.block):=Fh λa e=>di HH.o HOA.o a.block (by rw[e];rfl);have nu:Hid (∀a,Au=some a->¬au O a.block):=Fh λa e=>di HH.o VU.o a.block (by rw[e];rfl);have no:Hid (∀a,Ao=some a->¬au O a.block):=Fh λa e=>di HH.o HOO.o a.block (by rw[e];rfl);have y0:=Ma.cell 0;have y1:=Ma.cell 1;have y2:=Ma.cell 2;have y3:=Ma.cell 3;have Ke:=Fh (tr g3.has (.slice Aa all.length ca) all.length Au Ao cu co (Kw l) (Ls l) (iM ZT) (iM ZU) HUL.o HOL.o HAL.o ⟨_,_,rfl⟩);clear Rm VT hoo Gg g2 Nh k3 g3 Ma Tx hoa3 ZT ZU;go_upto_region 4 with fail;rw[<-F7,<-H9];clear F7 H9;go_wp2_with fail;refine Ke.o.mono ?_;rintro e w4⟨RY,F9⟩;by_cases h0:all.length=0
 ·rw[if_pos h0]at RY;subst RY;have hv:=Qn.o;rw[if_pos (by rw[L0.o];exact h0)]at hv;obtain rfl:=Fk hv;have FW:=Fh (FT.o.trans F9);have Qp:=HZ.o _ _ FW.o;have f0:=Qp.frozen 0;have f1:=Qp.frozen 1;have z0:=Qp.cell 0;have z1:=Qp.cell 1;have HZ4:=Fh Qp;clear F9 hv Qp;go_wp2_with fail;refine bodyPost_ret (gC rfl _ _ zb 40 _ (0,0) _ rfl (bY HZ4.o _ _) underlying40 rfl (by kernel_rfl)) rfl ?_;have kz:aa (λk=>k=zb) w4 ((w4.setCell ⟨zb,0,none⟩ (.string ⟨#[]⟩)).setCell ⟨zb,1,none⟩ (.int .u16 0)):=
   ((aa.refl (λk=>k=zb) w4).setCell (p:=⟨zb,0,none⟩) (.inl rfl) _).setCell (p:=⟨zb,1,none⟩) (.inl rfl) _
  exact⟨rfl,MG.beside HH.o (TA.o.trans FW.o) kz λk e=>by rw[e,WY.o];exact Fm _⟩
 ·rw[if_neg h0]at RY;obtain⟨vu',rfl,ZV⟩:=RY;have hv:=Qn.o;rw[if_neg (by rw[L0.o];exact h0)]at hv;obtain⟨m1,p1,GM⟩:=Fi hv;obtain⟨m2,p2,JF⟩:=Fi GM;obtain⟨qq,p3,Lk⟩:=Fi JF;obtain rfl:=Fk Lk;obtain⟨Av,cv,rfl⟩:=aw ZV;have FW:=Fh (FT.o.trans F9);have Qj:cB l<all.length:=by
   unfold cB;have:=Hw l;have h5:=L0.o;split<;>omega
  obtain⟨k,hk⟩:=Fp (cB l);have hNK:mm (Kw l) (Ls l)=k:=by rw[DZ,hk]
  rw[hNK];obtain⟨a,ha⟩:∃a,all[k]? =some a:=⟨_,Fl (by omega)⟩;have Ty:all.getD k 0=a:=by rw[List.getD_eq_getElem?_getD,ha];rfl
  obtain⟨ql,Y3⟩:∃ql,l[k]? =some ql:=⟨_,Fl (by have:=L0.o;omega)⟩;have Yn:l.getD k (0,false)=ql:=by rw[List.getD_eq_getElem?_getD,Y3];rfl
  rw[<-hk]at p3;rw[Ty]at p3;have I7:=QK.o a (List.mem_of_getElem? ha);have Mo:=F9.kept;have h3s:w.heap.size<=w3.heap.size:=Nat.le_trans TA.o.kept.size FT.o.kept.size;have W5:=aj HOA.o Mo (di HH.o HOA.o);have Yo:=aj VU.o Mo (di HH.o VU.o);have ZW:=aj HOO.o Mo (di HH.o HOO.o);have ZX:=aS ZV h3s;have I8:=Mo.whole Pt.o HNR.o;have hna4:rS Aa all w4:=λi x hx=>by
   have hi:=(List.getElem?_eq_some_iff.1 hx).1;obtain⟨g,hg,_,_,hh⟩:=bC W5 (by omega) (by decide);exact⟨g,0,hg,by rw[Nat.zero_add];exact hh i _ (fv hx)⟩
  have nv:∀a,Av=some a->¬au O a.block:=λa e=>di HH.o ZX a.block (by rw[e];rfl);have VR:=Fh (xt FW.o.has all l m1 m2 L0.o Aa Au Ao Av ca cu co cv HAL.o QK.o hna4 (iM Yo) (iM ZX) na.out nu.out nv p1 p2);rw[<-hk]at VR;have HGO:=Fh (λW (hg:MG O w0 m2 W)=>yC hg.has a qq I7 p3);unfold Fb at*;obtain⟨ga,rfl,_,_,Lr⟩:=bC W5 (by omega) (by decide);obtain⟨go,rfl,_,_,hco⟩:=bC ZW (by omega) (by decide);have ca4:w4.cell? ⟨ga,k,none⟩=some (.int .i64 (a:Int)):=Lr k _ (fv ha);obtain⟨ob,Pe⟩:=Fp ql.2;have co4:w4.cell? ⟨go,k,none⟩=some (.bool ob):=hco k _ (ly (by unfold Ls;rw[List.getElem?_map,Y3,Pe];rfl));have Qp:=HZ.o _ _ FW.o;have n1:rb≠zb:=aE I8 Qp (by decide);have n2:ga≠zb:=λe=>aA W5 Qp (by decide) (by rw[<-e];rfl);have n3:go≠zb:=λe=>aA ZW Qp (by decide) (by rw[<-e];rfl);have m2':¬au O ga:=na.out _ rfl;have m3':¬au O go:=no.out _ rfl;obtain⟨N,hN⟩:=Fp all.length;rw[<-hN]at VR;have HI:Hid (∀w',aa (λk=>au O k\/k=zb) w4 w'->aa (λk=>au O k\/k=zb) w4 w'/\w'.cell? ⟨rb,1,none⟩=some (.slice (some ⟨ga,0,none⟩) N ca)/\w'.cell? ⟨rb,3,none⟩=some (.slice (some ⟨go,0,none⟩) N co)/\w'.cell? ⟨ga,k,none⟩=some (.int .i64 (a:Int))/\w'.cell? ⟨go,k,none⟩=some (.bool ob)):=Fh λW hk=>by
   have h:=hk.whole I8 (by rintro(e|e);exact HNR.o e;exact n1 e);exact⟨hk,by rw[hN];exact h.cell 1,by rw[hN];exact h.cell 3,hk.cell ca4 (by rintro(e|e);exact m2' e;exact n2 e),hk.cell co4 (by rintro(e|e);exact m3' e;exact n3 e)⟩
  have b0:(0:Int)<=(k:Int):=by omega
  have b1:(k:Int)<(N:Int):=by omega
  have hpc:=HI.o _ (aa.refl _ w4);have y0':w4.cell? ⟨rb,0,none⟩=some (.pointer (some ⟨O.mb,0,none⟩)):=I8.cell 0;have y1':w4.cell? ⟨rb,1,none⟩=some (.slice (some ⟨ga,0,none⟩) N ca):=by rw[hN];exact I8.cell 1
  have y2':w4.cell? ⟨rb,2,none⟩=some (.slice Au N cu):=by rw[hN];exact I8.cell 2
  have y3':w4.cell? ⟨rb,3,none⟩=some (.slice (some ⟨go,0,none⟩) N co):=by rw[hN];exact I8.cell 3
  obtain⟨tx,GQ⟩:∃tx:ByteArray,tx=⟨(cY qq.1.1).1.toArray⟩:=⟨_,rfl⟩;rw[<-GQ]at HGO;have X5:=Fh GQ;have HGLQ:Hid ((l.getD k (0,false)).2=ob):=Fh (by rw[Yn,Pe]);have HKK:=Fh hk;rw[<-hN];clear ZV hv GM JF Lk p1 p2 p3 Qj hNK Ty Yn I7 Mo h3s W5 Yo ZW ZX I8 hna4 nv Lr hco ca4 co4 Qp n1 n2 n3 m2' m3' hpc Pe Y3 ha GQ hk y0 y1 y2 y3 F9 h0;have HN:=Fh hN;clear hN;go_wp2_with fail;refine VR.o.mono ?_;rintro e w5⟨rfl,IB⟩;have J2:=(FW.o.trans IB).drew;have Gu:=HI.o _ (((IB.kept.mono λ_ _ e=> .inl e).drew:aa (λk=>au O k\/k=zb) w4 w5.drew));clear IB y0' y1' y2' y3';go_upto_region 8 with fail
  go_region_held3 (λw'=>aa (λk=>au O k\/k=zb) w4 w'/\w'.cell? ⟨rb,1,none⟩=some (.slice (some ⟨ga,0,none⟩) N ca)/\w'.cell? ⟨rb,3,none⟩=some (.slice (some ⟨go,0,none⟩) N co)/\w'.cell? ⟨ga,k,none⟩=some (.int .i64 (a:Int))/\w'.cell? ⟨go,k,none⟩=some (.bool ob))
   (first|assumption|exact HI.o _ (aa.trans Gu.1 (Hm.kept.mono λ_ _ e=> .inl e))|exact HI.o _ (((aa.trans Gu.1 (Hm.kept.mono λ_ _ e=> .inl e)).setCell (p:=⟨zb,0,none⟩) (.inl (.inr rfl)) _).setCell (p:=⟨zb,1,none⟩) (.inl (.inr rfl)) _))
   (first
   |((go_at_call 109;refine(HGO.o _ J2).mono ?_);rintro e w6 ⟨rfl,Hm⟩;have hz6:=HZ.o _ _ (J2.trans Hm);have z0:=hz6.cell 0;have z1:=hz6.cell 1;have f0:=hz6.frozen 0;have f1:=hz6.frozen 1;have HZ6:=Fh hz6;clear hz6))
  go_wp2_with fail;refine bodyPost_ret (gC rfl _ _ zb 40 _ (0,0) _ rfl (bY HZ6.o _ _) underlying40 rfl (by kernel_rfl)) rfl ?_;have kz:aa (λk=>k=zb) w6 ((w6.setCell ⟨zb,0,none⟩ (.string tx)).setCell ⟨zb,1,none⟩ (.int .u16 (qq.1.2:Int))):=
   ((aa.refl (λk=>k=zb) w6).setCell (p:=⟨zb,0,none⟩) (.inl rfl) _).setCell (p:=⟨zb,1,none⟩) (.inl rfl) _
  refine⟨?_,MG.beside HH.o (TA.o.trans (J2.trans Hm)) kz λk e=>by rw[e,WY.o];exact Fm _⟩;have e9:=HGLQ.o;rw[HKK.o,List.getD_eq_getElem?_getD]at e9;have hev:evV (some (qq.1,(l[cB l]?.getD (0,false)).2))= .tuple #[.agg #[.string tx,.int .u16 (qq.1.2:Int)],.bool ob,.int .i64 0]:=by rw[e9,X5.o];rfl
  rw[hev];rfl
end
def tA(k:Ky):List Value:= [.string ⟨(cY k.1).1.toArray⟩,.int .u16 (k.2:Int)]
def fT(l:List Ky):List Value:=l.flatMap tA
theorem pK(l:List Ky)(p:Ky):fT (l++ [p])=fT l++tA p:=by
 unfold fT;rw[List.flatMap_append];simp
def dK(B:Nat)(w:World)(v:Value)(l:List Ky):Prop:=w.ownsRow B 40 2 v l.length (fT l)
theorem MS:(prog.info? 40).map (λi=>(i.zero,i.size,i.bytes))=some (some (.agg #[.string ⟨#[]⟩,.int .u16 0]),2,24):=by kernel_rfl
section
variable{O:av}{μ:Mm}{w:World}
theorem pL{k:Nat}(h:au O k):eX O k:=by
 rcases h with h|h|h
 ·exact .inr (.inl h)
 ·exact .inr (.inr (.inr (.inl h)))
 ·exact .inr (.inr (.inr (.inr (.inl h))))
structure MX(O:av)(gb:Nat)(w:World)(μ:Mm)(W:World):Prop where
 has:ao O μ W
 kept:aa (λk=>au O k\/k=gb) w W
theorem MX.trans{gb:Nat}{m m':Mm}{W W':World}(h:MX O gb w m W)(k:MG O W m' W'):MX O gb w m' W':=⟨k.has,h.kept.trans (k.kept.mono λ_ _ e=> .inl e)⟩
theorem MX.beside{gb:Nat}{m:Mm}{w1 w2:World}{S:Nat->Prop}(h0:ao O μ w)(h:MX O gb w m w1)(ng:¬eX O gb)(hk:aa S w1 w2)(hS:∀k,S k->w.heap.size<=k\/k=gb):MX O gb w m w2:=
 ⟨h.has.kept hk (λk hk e=>by
  have:=h0.lt hk;rcases hS _ e with h1|h1
  ·omega
  ·exact ng (h1▸hk)),⟨hk.os.trans h.kept.os,hk.tape.trans h.kept.tape,hk.output.trans h.kept.output,Nat.le_trans h.kept.size hk.size,λk hl hn=>(hk.block k (Nat.lt_of_lt_of_le hl h.kept.size) (λe=>by
   rcases hS k e with h1|h1
   ·omega
   ·exact hn (.inr h1))).trans (h.kept.block k hl hn)⟩⟩
structure Nl(O:av)(w:World)(gb:Nat)(g:Gt)(vg vp:Value)(μ:Mm)(W:World):Prop where
 mg:MX O gb w μ W
 ng:¬eX O gb
 pt:Whole W gb 228 #[.int .i64 (g.at_:Int),vg,.int .i64 (g.over:Int),vp]
 ok:dK w.heap.size W vg g.gone
 op:fi w.heap.size W vp g.F2
variable{gb:Nat}{g:Gt}{vg vp:Value}{W W':World}
theorem cr(h0:ao O μ w){W:World}{e:TypeId}{k:Nat}{v:Value}{n:Nat}{xs:List Value}(h:W.ownsRow w.heap.size e k v n xs):∀j,v.ownBlock=some j->¬au O j:=λj hk=>h0.Fu (aF h hk).1
theorem Nl.on(h0:ao O μ w){m m':Mm}(h:Nl O w gb g vg vp m W)(k:MG O W m' W'):Nl O w gb g vg vp m' W':=
 ⟨h.mg.trans k,h.ng,k.kept.whole h.pt (λe=>h.ng (pL e)),aj h.ok k.kept (cr h0 h.ok),aj h.op k.kept (cr h0 h.op)⟩
theorem Nl.new{m:Mm}(h:Nl O w gb g vg vp m W)(k:aa (λ_=>False) W W'):Nl O w gb g vg vp m W':=
 ⟨⟨h.mg.has.kept k λ_ _=>id,h.mg.kept.trans (k.mono λ_ _ e=>e.elim)⟩,h.ng,k.whole h.pt id,aj h.ok k λ_ _=>id,aj h.op k λ_ _=>id⟩
theorem iN{w:World}{B B':Nat}{E E':TypeId}{s s':Nat}{u v:Value}{n n':Nat}{xs ys:List Value}{k:Nat}(h:w.ownsRow B E s v n xs)(h':w.ownsRow B' E' s' u n' ys)(hE:E≠E')(hk:u.ownBlock=some k):v.ownBlock≠some k:=λe=>by
 rcases h.2 with⟨h1,_⟩|⟨g,cap,Kb,h1,_,hg,_⟩
 ·rw[h1]at e;cases e
 ·rcases h'.2 with⟨h2,_⟩|⟨g',cap',cur',h2,_,UB,_⟩
  ·rw[h2]at hk;cases hk
  ·rw[h1]at e;rw[h2]at hk;have e1:g=k:=by simpa[Value.ownBlock]using e
   have e2:g'=k:=by simpa[Value.ownBlock]using hk
   subst e1;rw[e2,hg]at UB;injection UB with q;injection q with _ q;exact hE q
theorem Nl.ZL(h0:ao O μ w){m:Mm}{o:Obj}{w3:World}{k:Ky}{v':Value}(h:Nl O w gb g vg vp m W)(F3:w3.ownsRow w.heap.size 40 2 v' (g.gone.length+1) (fT g.gone++tA k))(FZ:(W.alloc o).grownBy w3 vg.ownBlock):
  Whole w3 gb 228 #[.int .i64 (g.at_:Int),vg,.int .i64 (g.over:Int),vp]/\Nl O w gb {g with gone:=g.gone++ [k]} v' vp m (w3.setCell ⟨gb,1,none⟩ v'):=by
 have h1:=h.new ((aa.refl (λ_=>False) W).alloc o);have kg:=aa.grown FZ;have F7:=kg.whole h1.pt (aA h1.ok h1.pt (by decide));have ks:aa (λk=>k=gb) w3 (w3.setCell ⟨gb,1,none⟩ v'):=(aa.refl (λk=>k=gb) w3).setCell (p:=⟨gb,1,none⟩) (.inl rfl) _;have Ma:=aj h1.op kg λk hk e=>iN h1.ok h1.op (by decide) hk e;have m3:MX O gb w m w3:=MX.beside h0 h1.mg h1.ng kg λk hk=> .inl (aF h1.ok hk).1;refine⟨F7,MX.beside h0 m3 h.ng ks λk e=> .inr e,h.ng,F7.put 1 _,?_,aj Ma ks λk hk e=>aA Ma F7 (by decide) (by rw[hk,e])⟩;unfold dK;rw[pK,List.length_append];exact aj F3 ks λk hk e=>aA F3 F7 (by decide) (by rw[hk,e])
theorem Nl.one(h0:ao O μ w){m:Mm}(h:Nl O w gb g vg vp m W):Nl O w gb {g with over:=g.over+1} vg vp m (W.setCell ⟨gb,2,none⟩ (.int .i64 ((g.over:Int)+1))):=by
 have ks:aa (λk=>k=gb) W (W.setCell ⟨gb,2,none⟩ (.int .i64 ((g.over:Int)+1))):=(aa.refl (λk=>k=gb) W).setCell (p:=⟨gb,2,none⟩) (.inl rfl) _;refine⟨MX.beside h0 h.mg h.ng ks λk e=> .inr e,h.ng,?_,aj h.ok ks λk hk e=>aA h.ok h.pt (by decide) (by rw[hk,e]),aj h.op ks λk hk e=>aA h.op h.pt (by decide) (by rw[hk,e])⟩;exact h.pt.put 2 _
theorem Nl.app3(h0:ao O μ w){m:Mm}{w3:World}{l:List (Nat×Nat)}{v':Value}(h:Nl O w gb g vg vp m W)(F3:w3.ownsRow w.heap.size 182 2 v' (g.F2.length+l.length) (cW g.F2++cW l))(FZ:W.grownBy w3 vp.ownBlock):
  Whole w3 gb 228 #[.int .i64 (g.at_:Int),vg,.int .i64 (g.over:Int),vp]/\Nl O w gb {g with F2:=g.F2++l} vg v' m (w3.setCell ⟨gb,3,none⟩ v'):=by
 have kg:=aa.grown FZ;have F7:=kg.whole h.pt (aA h.op h.pt (by decide));have ks:aa (λk=>k=gb) w3 (w3.setCell ⟨gb,3,none⟩ v'):=(aa.refl (λk=>k=gb) w3).setCell (p:=⟨gb,3,none⟩) (.inl rfl) _;have Ma:=aj h.ok kg λk hk e=>iN h.op h.ok (by decide) hk e;have m3:MX O gb w m w3:=MX.beside h0 h.mg h.ng kg λk hk=> .inl (aF h.op hk).1;refine⟨F7,MX.beside h0 m3 h.ng ks λk e=> .inr e,h.ng,F7.put 3 _,aj Ma ks λk hk e=>aA Ma F7 (by decide) (by rw[hk,e]),?_⟩;unfold fi;have e:cW (g.F2++l)=cW g.F2++cW l:=by unfold cW;rw[List.flatMap_append]
 rw[e,List.length_append];exact aj F3 ks λk hk e=>aA F3 F7 (by decide) (by rw[hk,e])
theorem rT(w:World)(l:List Value)(T:TypeId):∀(j:Nat) (u:Value),l[j]? =some u->(w.alloc (.cells l.toArray T)).cell? ((⟨w.heap.size,0,none⟩:Addr).add j)=some u:=λj u hj=>by
 rw[Addr.add_lit,Nat.zero_add,Whole.cell (Whole.new w _ _),List.getElem?_toArray];exact hj
theorem Ax(h0:ao O μ w){m:Mm}(hs:Nl O w gb g vg vp m W)(bx:Nat)(UI:W.cell? ⟨bx,0,none⟩=some (.pointer (some ⟨O.mb,0,none⟩)))(nbx:bx≠gb)(nbm:¬au O bx)(hlg:g.gone.length<=10000000)(OF:g.over<=10000000)(q:Option (Ky×Bool)×Mm)(hv:jI m=some q):
  Calls prog 320 #[.pointer (some ⟨gb,0,none⟩),.pointer (some ⟨bx,0,none⟩)] W λe w'=>e= .returned (.int .i64 (if q.1.isSome then 0 else 7))/\∃vg',Nl O w gb (match q.1 with|none=>g|some k=>if k.2=true then {g with over:=g.over+1}else {g with gone:=g.gone++ [k.1]}) vg' vp q.2 w':=by
 have HEV:=Fh (CC hs.mg.has q hv);have HS:=Fh hs;have H0:=Fh h0;obtain⟨i0,hi,G9,G8,G7⟩:=info_parts MS;obtain⟨qo,m'⟩:=q;dsimp only at HEV⊢;clear hv h0 hs;cases qo with
 |none=>
  unfold evV at HEV;go_in;go_wp2_with fail;refine HEV.o.mono ?_;rintro e w1⟨rfl,Gz⟩;have RF:=Fh (HS.o.on H0.o Gz);have Lb:=Fh (RF.o.new ((aa.refl (λ_=>False) w1).alloc (.cells #[.string ⟨#[]⟩,.int .u16 0] 40)));clear Gz;go_wp2;go_ret;exact⟨rfl,vg,Lb.o⟩
 |some k=>
  obtain⟨⟨kn,kt⟩,kb⟩:=k;obtain⟨tx,GQ⟩:=Fp ((cY kn).1.toArray);have X5:=Fh GQ;have hev:evV (some ((kn,kt),kb))= .tuple #[.agg #[.string ⟨tx⟩,.int .u16 (kt:Int)],.bool kb,.int .i64 0]:=by rw[GQ];rfl
  rw[hev]at HEV;have TN:tA (kn,kt)= [.string ⟨tx⟩,.int .u16 (kt:Int)]:=by rw[GQ];rfl
  have HKC:=Fh TN;clear GQ hev TN;go_in;go_wp2_with fail;refine HEV.o.mono ?_;rintro e w1⟨rfl,Gz⟩;have RF:=Fh (HS.o.on H0.o Gz);obtain⟨W6,UR⟩:=Fp w1.heap.size;have Lb:=Fh (RF.o.new ((aa.refl (λ_=>False) w1).alloc (.cells #[.string ⟨tx⟩,.int .u16 (kt:Int)] 40)));have hkw:Whole (w1.alloc (.cells #[.string ⟨tx⟩,.int .u16 (kt:Int)] 40)) w1.heap.size 40 #[.string ⟨tx⟩,.int .u16 (kt:Int)]:=Whole.new _ _ _;have HKW:=Fh hkw;clear Gz hkw UR;cases kb with
  |true=>
   have x2:(w1.alloc (.cells #[.string ⟨tx⟩,.int .u16 (kt:Int)] 40)).cell? ⟨gb,2,none⟩=some (.int .i64 (g.over:Int)):=Lb.o.pt.cell 2;have x2f:=Lb.o.pt.frozen 2;have RI:IntKind.i64.wrap ((g.over:Int)+1)=(g.over:Int)+1:=by rw[IntKind.wrap_i64];omega
   go_wp2_with fail
   all_goals
    go_ret;exact⟨rfl,vg,Lb.o.one H0.o⟩
  |false=>
   obtain⟨w2,FL⟩:=Fp (w1.alloc (.cells #[.string ⟨tx⟩,.int .u16 (kt:Int)] 40));rw[<-FL]at Lb HKW;obtain⟨W6,UR⟩:=Fp w1.heap.size;rw[<-UR]at HKW;have Qv:=Fh (Lb.o.new ((aa.refl (λ_=>False) w2).drew));have HKW3:=Fh (((aa.refl (λ_=>False) w2).drew).whole HKW.o id);have Nk:=Qv.o.new ((aa.refl (λ_=>False) w2.drew).alloc (.cells #[.string ⟨tx⟩,.int .u16 (kt:Int)] 40));have x1:w2.drew.cell? ⟨gb,1,none⟩=some vg:=Qv.o.pt.cell 1;have x1a:(w2.drew.alloc (.cells #[.string ⟨tx⟩,.int .u16 (kt:Int)] 40)).cell? ⟨gb,1,none⟩=some vg:=Nk.pt.cell 1;have x1b:(w2.alloc (.cells #[.string ⟨tx⟩,.int .u16 (kt:Int)] 40)).cell? ⟨gb,1,none⟩=some vg:=x1a;have y0b:(w2.alloc (.cells #[.string ⟨tx⟩,.int .u16 (kt:Int)] 40)).cell? ⟨W6,0,none⟩=some (.string ⟨tx⟩):=(((aa.refl (λ_=>False) w2).alloc _).whole HKW.o id).cell 0;have y1b:(w2.alloc (.cells #[.string ⟨tx⟩,.int .u16 (kt:Int)] 40)).cell? ⟨W6,1,none⟩=some (.int .u16 (kt:Int)):=(((aa.refl (λ_=>False) w2).alloc _).whole HKW.o id).cell 1;have y0:w2.drew.cell? ⟨W6,0,none⟩=some (.string ⟨tx⟩):=HKW3.o.cell 0;have y1:w2.drew.cell? ⟨W6,1,none⟩=some (.int .u16 (kt:Int)):=HKW3.o.cell 1;have Yd:w.heap.size<=(w2.drew.alloc (.cells #[.string ⟨tx⟩,.int .u16 (kt:Int)] 40)).heap.size:=Nk.mg.kept.size;have F4:=Nk.ok;have Vz:=Fh F4;clear Nk F4;go_upto_region 2 with fail;rw[<-FL,<-UR];clear FL UR
   go_region_law (
    (refine step_append_lies _ rfl _ _ _ rfl w.heap.size 40 i0 _ 2 24 underlying46 hi G9 G8 G7 rfl (by decide) vg g.gone.length (fT g.gone) rfl Vz.o ⟨_,0,none⟩ 1 1 [.string ⟨tx⟩,.int .u16 (kt:Int)] rfl rfl (rT _ _ _) (λx hx=>by simp at hx;rcases hx with rfl|rfl<;>rfl) (by decide) (by unfold maxLen;omega) (by omega) Yd _ rfl ?_
     intro ga cap w3 F3 FZ QJ ZM;rw[<-HKC.o]at F3;have Gy:=Qv.o.ZL H0.o F3 FZ;have z1:w3.cell? ⟨gb,1,none⟩=some vg:=Gy.1.cell 1;have z1f:=Gy.1.frozen 1;have MQ:=Fh Gy.2;clear Gy F3 FZ QJ ZM))
   all_goals
    go_wp2;go_ret;exact⟨rfl,_,MQ.o⟩
theorem pM(base:Nat)(t ty e:TypeId)(i:TypeInfo)(z:Value)(size bytes:Nat)(ht:prog.underlying t=some (.slice e))(hi:prog.info? e=some i)(hz:i.zero=some z)
  (US:i.size=size) (Mh:i.bytes=bytes) (hzs:z.cells.size=size) (F8:0<size) {w:World} {v u:Value} {n m B:Nat} {xs ys:List Value} (ho:w.ownsRow base e size v n xs) (hu:w.ownsRow B e size u m ys) (h1:∀x∈ys,x.oneCell'=true)
  (h63:n+m<=maxLen) (ZY:(n+m)*bytes<=140737488355328) (PR:base<=w.heap.size):
  ∃v' w',(Builtin.append_ #[t,t] ty #[v,u]).run prog w= .ok v' w'/\w'.ownsRow base e size v' (n+m) (xs++ys)/\w.grownBy w' v.ownBlock:=by
 obtain⟨hl,⟨rfl,rfl⟩|⟨g,cap,Kb,rfl,hg,hh,h4,h5,h6,h7⟩⟩:=hu
 ·have e0:ys= []:=List.eq_nil_of_length_eq_zero (by rw[hl,Nat.zero_mul]);subst e0;exact⟨v,w,run_append_owned_none w base t ty e i size ht hi v n xs ho,by rw[Nat.add_zero,List.append_nil];exact ho,World.grownBy.refl _ _⟩
 ·obtain⟨v',w',hr,h2,h3,_⟩:=run_append_own (P:=prog) w base t ty e i z size bytes ht hi hz US Mh hzs F8 v n xs ho ⟨g,0,none⟩ m cap ys hl (λj x hj=>by
   rw[Addr.add_lit,Nat.zero_add];have hi:=(List.getElem?_eq_some_iff.1 hj).1;rw[<-h7,List.getElem?_take_of_lt (by omega)]at hj;rw[Whole.cell (show Whole w g e Kb from hh) j];simpa using hj) h1 h63 ZY PR
  exact⟨v',w',hr,h2,h3⟩
theorem mr{P:Program}{w:World}{ops:Array Oper}{rest:List Oper}{o:Oper}{a:Act}{Q:Exit->Act->World->Prop}(J2:o.guard=none)(s x:Operand)(t:TypeId)
  (ho:o.op= .call {callee:= .builtin .append,args:= #[s,x],argTypes:= #[t,t]}) (v u:Value) (hs:a.eval s=v) (hx:a.eval x=u) {v':Value} {w':World}
  (hr:(Builtin.append_ #[t,t] o.type #[v,u]).run P w= .ok v' w') (h:wpList P ops Q rest (a.put o.dst v') w'):wpList P ops Q (o::rest) a w:=by
 refine wpList_plain J2 λK hK=> ?_;unfold Oper.wp execOp;simp only [ho,resolve,invoke,builtin,Sem.run_bind,Sem.run_pure,Result.andThen_ok,List.map_toArray,List.map_cons,List.map_nil,hs,hx,hr];exact hK _ _ h
theorem xu(l:List (Nat×Nat)):∀x∈cW l,x.oneCell'=true:=λx hx=>by
 unfold cW at hx;obtain⟨p,_,hp⟩:=List.mem_flatMap.1 hx;simp only [nS,List.mem_cons,List.not_mem_nil,or_false]at hp;rcases hp with rfl|rfl<;>rfl
theorem Ay(h0:ao O μ w){m:Mm}(hs:Nl O w gb g vg vp m W)(bx:Nat)(UI:W.cell? ⟨bx,0,none⟩=some (.pointer (some ⟨O.mb,0,none⟩)))(hlg:g.F2.length<=1000000000)(r:Option (List (Nat×Nat)))(m':Mm)(hv:gV m=some (r,m'))(hlr:(r.getD []).length<=100000):
  Calls prog 322 #[.pointer (some ⟨gb,0,none⟩),.pointer (some ⟨bx,0,none⟩)] W λe w'=>e= .returned (.int .i64 (if r.isSome then 0 else 7))/\∃vp',Nl O w gb {g with F2:=g.F2++r.getD []} vg vp' m' w':=by
 have LG:=Fh (yy hs.mg.has r m' hv);have HS:=Fh hs;have H0:=Fh h0;obtain⟨i0,hi,G9,G8,G7⟩:=info_parts N4;obtain⟨er,Ih⟩:=Fp ((if r.isSome then(0:Int)else 7));have her':(.int .i64 (if r.isSome then 0 else 7):Value)= .int .i64 er:=by rw[Ih]
 obtain⟨l,hl⟩:=Fp (r.getD []);rw[<-hl]at LG hlr⊢;rw[<-Ih]at LG⊢;clear hv h0 hs Ih her' hl;go_in;go_wp2_with fail;refine LG.o.mono ?_;rintro e w1⟨⟨v,rfl,Uj⟩,Gz⟩;have RF:=Fh (HS.o.on H0.o Gz);obtain⟨v',w3,hr,F3,FZ⟩:=pM w.heap.size 110 110 182 i0 _ 2 16 underlying110 hi G9 G8 G7 rfl (by decide) RF.o.op Uj (xu l) (by unfold maxLen;omega) (by omega) RF.o.mg.kept.size;obtain⟨A3,c3,GM⟩:=aw F3;subst GM;have Gy:=RF.o.app3 H0.o F3 FZ;have HR:=Fh hr;have x3:w1.cell? ⟨gb,3,none⟩=some vp:=RF.o.pt.cell 3;have z3:w3.cell? ⟨gb,3,none⟩=some vp:=Gy.1.cell 3;have z3f:=Gy.1.frozen 3;have MQ:=Fh Gy.2;clear Gy F3 FZ hr Uj Gz;go_wp2_with (at_builtin;refine mr rfl _ _ 110 rfl vp v rfl rfl HR.o ?_)
 all_goals
  go_wp2;go_ret;exact⟨rfl,_,MQ.o⟩
theorem xv(pv:Value)(hp:pv= .pointer (some ⟨O.mb,0,none⟩))(W:World):Calls prog 259 #[pv] W λe w'=>
  ∃bx tb,e= .returned (.slice (some ⟨tb,0,none⟩) 2 2)/\W.heap.size<=bx/\W.heap.size<=tb/\aa (λ_=>False) W w'/\w'.cell? ⟨bx,0,none⟩=some (.pointer (some ⟨O.mb,0,none⟩))/\
   w'.cell? ⟨tb,0,none⟩=some (.func (.func 320) #[] #[.pointer (some ⟨bx,0,none⟩)])/\w'.cell? ⟨tb,1,none⟩=some (.func (.func 322) #[] #[.pointer (some ⟨bx,0,none⟩)]):=by
 subst hp;go_in;go_wp2;go_ret;have e1:∀o,(W.alloc o).heap.size=W.heap.size+1:=λo=>by simp
 refine⟨W.heap.size,W.heap.size+1,rfl,Fm _,Nat.le_succ _,((aa.refl (λ_=>False) W).alloc _).alloc _,?_,?_,?_⟩
 ·exact(((aa.refl (λ_=>False) (W.alloc _)).alloc _).whole (Whole.new W _ _) id).cell 0
 ·rw[<-e1 (.cells #[.pointer (some ⟨O.mb,0,none⟩)] _)];exact(Whole.new (W.alloc _) _ _).cell 0
 ·rw[<-e1 (.cells #[.pointer (some ⟨O.mb,0,none⟩)] _)];exact(Whole.new (W.alloc _) _ _).cell 1
end
theorem vt{p:Nat->Prop}:(∃k,p k)->∃k,p k/\∀j,p j->k<=j:=λ⟨k,h⟩=>by
 induction k using Nat.strongRecOn with
 |_ k ih=>
  by_cases q:∃j,j<k/\p j
  ·obtain⟨j,h1,h2⟩:=q;exact ih j h1 h2
  ·exact⟨k,h,λj hj=>by
    rcases Nat.lt_or_ge j k with h1|h1
    ·exact(q ⟨j,h1,hj⟩).elim
    ·exact h1⟩
open Classical in
noncomputable def OM(p:Nat->Prop):Nat:=if h:∃k,p k then(vt h).choose else 0
theorem nX{p:Nat->Prop}(h:∃k,p k):p (OM p)/\∀j,p j->OM p<=j:=by
 unfold OM;rw[dif_pos h];exact(vt h).choose_spec
theorem qJ{P:Program}{a:Act}{w:World}{Q:Exit->Act->World->Prop}{c rest:Code}(l:Nat)(J:Nat->Act->World->Prop)(hf:findLabel c l=some (.seq .skip rest))
  (pass:∀k a w,J k a w->rest.wp P (Exit.jump l (λa' w'=>∃k',k'<k/\J k' a' w') Q) a w)
  (first:(∀k a w,J k a w->rest.wp P (Exit.jump l (λa' w'=>∃k,J k a' w') Q) a w)->c.wp P (Exit.jump l (λa' w'=>∃k,J k a' w') Q) a w):(Code.scope c).wp P Q a w:=
 gJ l (λa w=>∃k,J k a w) (λa w=>OM λk=>J k a w) hf
  (λa w h=>wp_mono (pass _ a w (nX h).1) λe a' w' hq=>by
   cases e with
   |goto l'=>
    obtain⟨h1,k',h2,h3⟩:=hq;exact⟨h1,⟨k',h3⟩,Nat.lt_of_le_of_lt ((nX ⟨k',h3⟩).2 k' h3) h2⟩
   |_=>exact hq)
  (λhp=>first λk a w h=>wp_mono (hp a w ⟨k,h⟩) λe a' w' hq=>by
   cases e with
   |goto l'=>exact hq
   |_=>exact hq)
def vv(c k:Nat)(g:Gt)(m:Mm):Option ((Gt×Nat)×Mm):=(gV m).bind λt=>match t.1 with
 |some l=>cM c k {g with F2:=g.F2++l} t.2
 |none=>some ((g,5),t.2)
def CD(c k:Nat)(g:Gt)(m:Mm):Option ((Gt×Nat)×Mm):=(jI m).bind λr=>match r.1 with
 |some w=>cM c k (if w.2=true then {g with over:=g.over+1}else {g with gone:=g.gone++ [w.1]}) r.2
 |none=>vv c k g r.2
theorem jK(c k:Nat)(g:Gt)(m:Mm):cM c (k+1) g m=(dd c m).bind λq=>if q.1.2≠5 then some (({g with at_:=q.1.1},q.1.2),q.2)else CD c k g q.2:=rfl
theorem rU{m m':Mm}{l:List (Nat×Nat)}(h:gV m=some (some l,m')):l.length<=32:=by
 obtain⟨o,h1,F6⟩:=Fi h;cases o with
 |none=>simp at F6
 |some s=>
  obtain⟨x,h2,F0⟩:=Fi F6;obtain⟨lv,h3,GM⟩:=Fi F0;obtain⟨q,h4,JF⟩:=Fi GM;obtain⟨nn,h5,Lk⟩:=Fi JF;obtain⟨mz,h6,h7⟩:=Fi Lk;have h8:some q.1=some l:=congrArg Prod.fst (Fk h7);have:=lu h4;rw[<-Fk h8,this];exact(fs h3).1
section
variable{O:av}{μ:Mm}{w:World}
theorem ao.PS(h:ao O μ w):μ.slots<=1000000:=by
 obtain⟨k1,k2,k3,k4,k5⟩:=bB.1 h.ok;omega
structure TkB(O:av)(B:World)(rb gb bx tb:Nat):Prop where
 has:∃m,ao O m B
 rr:Whole B rb 228 #[.int .i64 0,.slice none 0 0,.int .i64 0,.slice none 0 0]
 cb:B.cell? ⟨bx,0,none⟩=some (.pointer (some ⟨O.mb,0,none⟩))
 t0:B.cell? ⟨tb,0,none⟩=some (.func (.func 320) #[] #[.pointer (some ⟨bx,0,none⟩)])
 t1:B.cell? ⟨tb,1,none⟩=some (.func (.func 322) #[] #[.pointer (some ⟨bx,0,none⟩)])
 nr:rb≠gb/\bx≠gb/\tb≠gb
 nm:¬eX O rb/\¬eX O bx/\¬eX O tb
structure TkR(O:av)(B:World)(gb c K:Nat)(res:(Gt×Nat)×Mm)(k:Nat)(g:Gt)(vg vp:Value)(m:Mm)(W:World):Prop where
 st:Nl O B gb g vg vp m W
 go:cM c k g m=some res
 n1:g.gone.length+g.over+k<=K
 n2:g.F2.length+32*k<=32*K
 at_:g.at_=0
theorem CE{w:World}{rb:Nat}{T:TypeId}{c0 c1 c2 c3:Value}(h:Whole w rb T #[c0,c1,c2,c3])(x0 x1 x2 x3:Value):Whole ((((w.setCell ⟨rb,0,none⟩ x0).setCell ⟨rb,1,none⟩ x1).setCell ⟨rb,2,none⟩ x2).setCell ⟨rb,3,none⟩ x3) rb T #[x0,x1,x2,x3]:=(((h.put 0 x0).put 1 x1).put 2 x2).put 3 x3
theorem Ep(w:World)(rb:Nat)(x0 x1 x2 x3:Value):aa (λk=>k=rb) w ((((w.setCell ⟨rb,0,none⟩ x0).setCell ⟨rb,1,none⟩ x1).setCell ⟨rb,2,none⟩ x2).setCell ⟨rb,3,none⟩ x3):=
 ((((aa.refl (λk=>k=rb) w).setCell (p:=⟨rb,0,none⟩) (.inl rfl) _).setCell (p:=⟨rb,1,none⟩) (.inl rfl) _).setCell (p:=⟨rb,2,none⟩) (.inl rfl) _).setCell (p:=⟨rb,3,none⟩) (.inl rfl) _
theorem vx{B w2 w3:World}{gb:Nat}{m1:Mm}(h0:ao O μ w)(kB:MG O w μ B)(Ps:w.heap.size<=gb)(m2:MX O gb B m1 w2)(k3:aa (λk=>k=w.heap.size) w2 w3):MG O w m1 w3:=
 ⟨m2.has.kept k3 (λk hk e=>by have:=h0.lt hk;omega),⟨(k3.os.trans m2.kept.os).trans kB.kept.os,(k3.tape.trans m2.kept.tape).trans kB.kept.tape,(k3.output.trans m2.kept.output).trans kB.kept.output,Nat.le_trans kB.kept.size (Nat.le_trans m2.kept.size k3.size),λk hl hn=>by
  have l1:=Nat.lt_of_lt_of_le hl kB.kept.size;rw[k3.block k (Nat.lt_of_lt_of_le l1 m2.kept.size) (by omega),m2.kept.block k l1 (by rintro(e|e)<;>first|exact hn e|omega),kB.kept.block k hl hn]⟩⟩
theorem CF(h:ao O μ w)(c:Nat)(hc:c<=100)(r:Gt×Nat)(μ':Mm)(hv:mn c μ=some (r,μ')):Calls prog 165 #[.pointer (some ⟨O.mb,0,none⟩),.int .i64 (c:Int)] w λe w'=>
  ∃vg vp,e= .returned (.tuple #[.agg #[.int .i64 (r.1.at_:Int),vg,.int .i64 (r.1.over:Int),vp],.int .i64 (r.2:Int)])/\dK w.heap.size w' vg r.1.gone/\fi w.heap.size w' vp r.1.F2/\MG O w μ' w':=by
 unfold mn at hv;have hK:μ.slots+μ.Fq+2<=2000000:=by have:=h.PS;have:=h.GX.2;omega
 obtain⟨K,hKe⟩:=Fp (μ.slots+μ.Fq+2);rw[<-hKe]at hv hK;have HV:=Fh hv;have HH:=Fh h;clear hv h hKe;go_in;go_wp2_with fail;refine qJ 0 (λk a' W=>∃(B:World) (rb gb bx tb:Nat) (g:Gt) (vg vp:Value) (m:Mm),rb=w.heap.size/\Hid (TkB O B rb gb bx tb/\MG O w μ B/\w.heap.size<=gb)/\Hid (TkR O B gb c K (r,μ') k g vg vp m W)/\∃(u:Nat->Value),a'= {tmps:= #[.pointer (some ⟨O.mb,0,none⟩),.int .i64 (c:Int),u 2,u 3,.pointer (some ⟨rb,0,none⟩),.int .i64 0,.pointer (some ⟨gb,0,none⟩),.slice (some ⟨tb,0,none⟩) 2 2,u 8,u 9,u 10,u 11,u 12,u 13,u 14,u 15,u 16,u 17,u 18,u 19,u 20,u 21,u 22,u 23,u 24,u 25,u 26,u 27,u 28,u 29,u 30,u 31,u 32,u 33,u 34,u 35,u 36,u 37,u 38,u 39,u 40],defers:= []}) rfl ?_ ?_
 rotate_left
 ·intro PF;go_wp2_with fail;obtain⟨w2,FL⟩:=Fp ((w.alloc (.cells #[.int .i64 0,.slice none 0 0,.int .i64 0,.slice none 0 0] 228)).alloc (.cells #[.int .i64 0,.slice none 0 0,.int .i64 0,.slice none 0 0] 228));rw[<-FL];have e1:(w.alloc (.cells #[.int .i64 0,.slice none 0 0,.int .i64 0,.slice none 0 0] 228)).heap.size=w.heap.size+1:=by simp
  have e2:w2.heap.size=w.heap.size+2:=by rw[FL];simp
  have k2:MG O w μ w2:=by rw[FL];exact((MG.refl HH.o).alloc _).alloc _
  have Gc:Whole w2 w.heap.size 228 #[.int .i64 0,.slice none 0 0,.int .i64 0,.slice none 0 0]:=by rw[FL];exact((aa.refl (λ_=>False) _).alloc _).whole (Whole.new w _ _) id
  have Gg:Whole w2 (w.heap.size+1) 228 #[.int .i64 0,.slice none 0 0,.int .i64 0,.slice none 0 0]:=by rw[FL,<-e1];exact Whole.new _ _ _
  refine(xv (O:=O) _ rfl w2).mono ?_;rintro e B⟨bx,tb,rfl,FN,FF,Pq,Na,Yp,OC⟩;have kB:MG O w μ B:=k2.trans ⟨k2.has.kept Pq λ_ _=>id,Pq.mono λ_ _ e=>e.elim⟩;have IJ:∀k,w.heap.size<=k->¬eX O k:=λk hk e=>by have:=HH.o.lt e;omega
  have HB:Hid (TkB O B w.heap.size (w.heap.size+1) bx tb/\MG O w μ B/\w.heap.size<=w.heap.size+1):=
   Fh ⟨⟨⟨μ,kB.has⟩,Pq.whole Gc id,Na,Yp,OC,⟨by omega,by omega,by omega⟩,IJ _ (Fm _),IJ _ (by omega),IJ _ (by omega)⟩,kB,by omega⟩
  have HR:Hid (TkR O B (w.heap.size+1) c K (r,μ') K {} (.slice none 0 0) (.slice none 0 0) μ B):=
   Fh ⟨⟨⟨kB.has,aa.refl _ _⟩,IJ _ (by omega),Pq.whole Gg id,dm _ _ _ _,dm _ _ _ _⟩,HV.o,by simp,by simp,rfl⟩
  clear FL k2 Gc Gg Pq Na Yp OC kB IJ e1 e2 FN FF;go_wp2_with fail;go_step3
  rename_i hK
  refine hK _ _ (PF _ _ _ ⟨B,w.heap.size,w.heap.size+1,bx,tb, {},.slice none 0 0,.slice none 0 0,μ,rfl,HB,HR,?_⟩);exact dY rfl
 ·rintro k a' W ⟨B,rb,gb,bx,tb,g,vg,vp,m,H9,HB,HR,u,rfl⟩;obtain⟨m0,hB0⟩:=HB.o.1.has;have H0:=Fh hB0;clear hB0;cases k with
  |zero=>exact absurd HR.o.go (by simp[cM])
  |succ k=>
   have TB:=HR.o.go;rw[jK]at TB;obtain⟨q,ht,TB⟩:=Fi TB;obtain⟨⟨a,er⟩,m1⟩:=q;have HT:=Fh (pa HR.o.st.mg.has c a er m1 ht);dsimp only at TB;by_cases Ih:er=5
   ·subst Ih;rw[if_neg (by simp)]at TB;have HG:=Fh TB;clear TB ht;go_wp2_with fail;refine HT.o.mono ?_;rintro e w1⟨rfl,Gz⟩;have HS:=Fh (HR.o.st.on H0.o Gz);clear Gz;go_wp2_with fail;go_step3
    rename_i hK2
    refine hK2 _ _ ?_;go_wp2_with fail
    go_loopw [28] (λs28 W=>∃(j:Nat) (vg' vp':Value) (m':Mm),j<=2/\s28= .int .i64 j/\Hid (Nl O B gb g vg' vp' m' W)/\Hid ((if j=0 then CD c k g m' else if j=1 then vv c k g m' else some ((g,5),m'))=some (r,μ'))) (λs28 W=>match s28 with| .int _ m=>2-m.toNat|_=>0)
    case atStart=>exact⟨0,vg,vp,m1,by omega,rfl,HS,HG⟩
    case round=>
     obtain⟨j,vg',vp',m',hj,rfl,Yq,HG'⟩:=hrel;have GI:∀b i v,b≠gb->¬eX O b->B.cell? ⟨b,i,none⟩=some v->wr.cell? ⟨b,i,none⟩=some v:=λb i v h1 h2 h3=>Yq.o.mg.kept.cell h3 (by
      rintro(e|e)
      ·exact h2 (pL e)
      ·exact h1 e)
     obtain⟨Na,Yp,OC⟩:=And.intro (GI _ _ _ HB.o.1.nr.2.1 HB.o.1.nm.2.1 HB.o.1.cb) (And.intro (GI _ _ _ HB.o.1.nr.2.2 HB.o.1.nm.2.2 HB.o.1.t0) (GI _ _ _ HB.o.1.nr.2.2 HB.o.1.nm.2.2 HB.o.1.t1));have NV:=HR.o.n1;have ML:=HR.o.n2;clear GI;by_cases j0:j=0
     ·subst j0;have GK:=HG'.o;rw[if_pos rfl]at GK;unfold CD at GK;obtain⟨q1,Jm,IH⟩:=Fi GK;have ka:=(aa.refl (λ_=>False) wr).alloc (.cells #[.func (.func 320) #[] #[.pointer (some ⟨bx,0,none⟩)]] 301);have HM:=Fh (Ax H0.o (Yq.o.new ka) bx (ka.cell Na id) HB.o.1.nr.2.1 (λe=>HB.o.1.nm.2.1 (pL e)) (by omega) (by omega) q1 Jm);have HQ:=Fh IH;obtain⟨qo,m2⟩:=q1;clear GK Jm IH ka Na OC;cases qo with
      |some kk=>
       go_wp2_with fail;refine HM.o.mono ?_;rintro e w3⟨rfl,vg3,Il⟩;have Qv:=Fh Il;clear Il;go_wp2_with fail;go_step3;refine And.intro rfl ?_;have LJ:Hid (cM c k (if kk.2=true then {g with over:=g.over+1}else {g with gone:=g.gone++ [kk.1]}) m2=some (r,μ')):=HQ;have ha:=HR.o.at_;refine⟨k,Nat.lt_succ_self k,B,w.heap.size,gb,bx,tb,_,_,_,_,rfl,H9▸HB,Fh ⟨Qv.o,LJ.o,?_,?_,?_⟩,?_⟩
       ·split
        ·dsimp only;omega
        ·dsimp only;rw[List.length_append];simp;omega
       ·split
        ·dsimp only;omega
        ·dsimp only;omega
       ·split<;>exact ha
       ·exact dY rfl
      |none=>
       go_wp2_with fail;refine HM.o.mono ?_;rintro e w3⟨rfl,vg3,Il⟩;have Qv:=Fh Il;have LJ:Hid (vv c k g m2=some (r,μ')):=HQ;clear Il;go_wp2_with fail;exact⟨⟨1,_,_,_,by omega,rfl,Qv,Fh (by rw[if_neg (by omega),if_pos rfl];exact LJ.o)⟩,by simp⟩
     ·by_cases j1:j=1
      ·subst j1;have GK:=HG'.o;rw[if_neg (by omega),if_pos rfl]at GK;unfold vv at GK;obtain⟨q1,Jm,IH⟩:=Fi GK;obtain⟨qo,m2⟩:=q1;have hl:(qo.getD []).length<=32:=by
        cases qo with
        |none=>simp
        |some l=>exact rU Jm
       have ka:=(aa.refl (λ_=>False) wr).alloc (.cells #[.func (.func 322) #[] #[.pointer (some ⟨bx,0,none⟩)]] 301);have HM:=Fh (Ay H0.o (Yq.o.new ka) bx (ka.cell Na id) (by omega) qo m2 Jm (by omega));have HQ:=Fh IH;clear GK Jm IH ka Na Yp;cases qo with
       |some l=>
        go_wp2_with fail;refine HM.o.mono ?_;rintro e w3⟨rfl,vp3,Il⟩;have Qv:=Fh Il;clear Il;go_wp2_with fail;go_step3;refine And.intro rfl ?_;have LJ:Hid (cM c k {g with F2:=g.F2++l} m2=some (r,μ')):=HQ;have ha:=HR.o.at_;refine⟨k,Nat.lt_succ_self k,B,w.heap.size,gb,bx,tb,_,_,_,_,rfl,H9▸HB,Fh ⟨Qv.o,LJ.o,by dsimp only;omega,?_,ha⟩,?_⟩
        ·dsimp only [Option.getD_some]at hl⊢;rw[List.length_append];omega
        ·exact dY rfl
       |none=>
        go_wp2_with fail;refine HM.o.mono ?_;rintro e w3⟨rfl,vp3,Il⟩;have Qv:Hid (Nl O B gb g vg' vp3 m2 w3):=Fh (by
         have:=Il;simp only [Option.getD_none,List.append_nil]at this;exact this)
        have LJ:Hid (some ((g,5),m2)=some (r,μ')):=HQ;clear Il;go_wp2_with fail;exact⟨⟨2,_,_,_,by omega,rfl,Qv,Fh (by rw[if_neg (by omega),if_neg (by omega)];exact LJ.o)⟩,by simp⟩
      ·obtain rfl:j=2:=by omega
       have Gg:=Yq.o.pt;have Gc:Whole wr rb 228 #[.int .i64 0,.slice none 0 0,.int .i64 0,.slice none 0 0]:=Yq.o.mg.kept.whole HB.o.1.rr (by
        rintro(e|e)
        ·exact HB.o.1.nm.1 (pL e)
        ·exact HB.o.1.nr.1 e)
       have HF:=Fh Yq.o;obtain⟨A1,c1,hvg⟩:=aw Yq.o.ok;obtain⟨A2,c2,hvp⟩:=aw Yq.o.op;subst hvg hvp;have y0:=Gg.cell 0;have y1:=Gg.cell 1;have y2:=Gg.cell 2;have y3:=Gg.cell 3;have r0:=Gc.cell 0;have r1:=Gc.cell 1;have r2:=Gc.cell 2;have r3:=Gc.cell 3;have f0:=Gc.frozen 0;have f1:=Gc.frozen 1;have f2:=Gc.frozen 2;have f3:=Gc.frozen 3;rw[H9]at Gc r0 r1 r2 r3 f0 f1 f2 f3;have KO:=Fh Gc;clear Gg Gc Na Yp OC;go_wp2_with fail;refine fQ ?_;refine bodyPost_ret (aB rfl _ _ w.heap.size 228 _ (0,0) _ rfl (CE KO.o _ _ _ _) underlying228 rfl (by kernel_rfl)) rfl ?_;have PT:=HG'.o;rw[if_neg (by omega),if_neg (by omega)]at PT;have PT:=Fk PT;have k4:=Ep wr w.heap.size (.int .i64 (g.at_:Int)) (.slice A1 g.gone.length c1) (.int .i64 (g.over:Int)) (.slice A2 g.F2.length c2);have e1:r=(g,5):=(congrArg Prod.fst PT).symm;have e2:μ'=m':=(congrArg Prod.snd PT).symm;rw[e1,e2];refine⟨_,_,rfl,?_,?_,vx HH.o HB.o.2.1 HB.o.2.2 HF.o.mg k4⟩
       ·exact aS (aj HF.o.ok k4 λk hk e=>aA HF.o.ok KO.o (by decide) (by rw[hk,e])) HB.o.2.1.kept.size
       ·exact aS (aj HF.o.op k4 λk hk e=>aA HF.o.op KO.o (by decide) (by rw[hk,e])) HB.o.2.1.kept.size
   ·rw[if_pos Ih]at TB;have HG:=Fh TB;clear TB ht;go_wp2_with fail;refine HT.o.mono ?_;rintro e w1⟨rfl,Gz⟩;have HS:=Fh (HR.o.st.on H0.o Gz);clear Gz;have z:¬((er:Int)=5):=by omega
    obtain⟨w2,FL⟩:=Fp (w1.setCell ⟨gb,0,none⟩ (.int .i64 (a:Int)));have x0:=HS.o.pt.cell 0;have x0f:=HS.o.pt.frozen 0;have ks:aa (λk=>k=gb) w1 w2:=by rw[FL];exact(aa.refl (λk=>k=gb) w1).setCell (p:=⟨gb,0,none⟩) (.inl rfl) _
    have Gg:Whole w2 gb 228 #[.int .i64 (a:Int),vg,.int .i64 (g.over:Int),vp]:=by rw[FL];exact HS.o.pt.put 0 _
    have Gc:Whole w2 rb 228 #[.int .i64 0,.slice none 0 0,.int .i64 0,.slice none 0 0]:=ks.whole (HS.o.mg.kept.whole HB.o.1.rr (by
     rintro(e|e)
     ·exact HB.o.1.nm.1 (pL e)
     ·exact HB.o.1.nr.1 e)) HB.o.1.nr.1
    have L6:=aj HS.o.ok ks λk hk e=>aA HS.o.ok HS.o.pt (by decide) (by rw[hk,e]);have Jn:=aj HS.o.op ks λk hk e=>aA HS.o.op HS.o.pt (by decide) (by rw[hk,e]);have m2:MX O gb B m1 w2:=MX.beside H0.o HS.o.mg HS.o.ng ks λk e=> .inr e;have HF:=Fh (And.intro Gc (And.intro L6 (And.intro Jn m2)));obtain⟨A1,c1,hvg⟩:=aw L6;obtain⟨A2,c2,hvp⟩:=aw Jn;subst hvg hvp;go_upto_region 6 with fail;rw[<-FL];have y0:=Gg.cell 0;have y1:=Gg.cell 1;have y2:=Gg.cell 2;have y3:=Gg.cell 3;have r0:=Gc.cell 0;have r1:=Gc.cell 1;have r2:=Gc.cell 2;have r3:=Gc.cell 3;have f0:=Gc.frozen 0;have f1:=Gc.frozen 1;have f2:=Gc.frozen 2;have f3:=Gc.frozen 3;rw[H9]at Gc r0 r1 r2 r3 f0 f1 f2 f3;have KO:=Fh Gc;clear FL ks Gg Gc L6 Jn m2 x0 x0f;go_wp2_with fail;refine fQ ?_;refine bodyPost_ret (aB rfl _ _ w.heap.size 228 _ (0,0) _ rfl (CE KO.o _ _ _ _) underlying228 rfl (by kernel_rfl)) rfl ?_;have PT:=Fk HG.o;have k4:=Ep w2 w.heap.size (.int .i64 (a:Int)) (.slice A1 g.gone.length c1) (.int .i64 (g.over:Int)) (.slice A2 g.F2.length c2);obtain⟨Wg,IT,XH,Uc⟩:=HF.o;have e1:r=({g with at_:=a},er):=(congrArg Prod.fst PT).symm;have e2:μ'=m1:=(congrArg Prod.snd PT).symm;rw[e1,e2];refine⟨_,_,rfl,?_,?_,vx HH.o HB.o.2.1 HB.o.2.2 Uc k4⟩
    ·exact aS (aj IT k4 λk hk e=>aA IT KO.o (by decide) (by rw[hk,e])) HB.o.2.1.kept.size
    ·exact aS (aj XH k4 λk hk e=>aA XH KO.o (by decide) (by rw[hk,e])) HB.o.2.1.kept.size
end
theorem nA{T E:TypeId}{z:Value}{nb:Nat}(hO:One T E z nb)(IJ:nb<=1000){w:World}{ops:Array Oper}{rest:List Oper}{o:Oper}{a:Act}{Q:Exit->Act->World->Prop}(J2:o.guard=none)(s x:Operand)
  (ho:o.op= .call {callee:= .builtin .append,args:= #[s,x],argTypes:= #[T,T]})
  (B:Nat) (v:Value) (n:Nat) (xs:List Value) (hs:a.eval s=v) (Gq:w.ownsRow B E 1 v n xs)
  (g:Nat) (u:Value) (hx:a.eval x= .slice (some ⟨g,0,none⟩) 1 1) (hg:w.cell? ⟨g,0,none⟩=some u) (h1:u.oneCell'=true) (hn:n<=10000000000) (hB:B<=w.heap.size)
  (h:∀v' w',w'.ownsRow B E 1 v' (n+1) (xs++ [u])->aa (λk=>v.ownBlock=some k) w w'->wpList prog ops Q rest (a.put o.dst v') w'):wpList prog ops Q (o::rest) a w:=by
 obtain⟨ht,hi,hz,hnb'⟩:=hO;obtain⟨i0,Px,G9,G8,G7⟩:=info_parts hi;refine wpList_append_own_at w J2 s x T ho B E i0 z 1 nb ht Px G9 G8 G7 hz (by decide) v n xs hs Gq ⟨g,0,none⟩ 1 1 [u] hx rfl (λj u' hj=> ?_) (λu' hu=> ?_) (by unfold maxLen;omega) ?_ hB λv' w' h1 h2 _ h3=>h v' w' h1 (aa.grown h2)
 ·have:j=0:=by
   have:=(List.getElem?_eq_some_iff.1 hj).1;simp at this;exact this
  subst this;have:u=u':=by simpa using hj
  rw[<-this,Addr.add_lit];exact hg
 ·simp at hu;rw[hu];exact h1
 ·calc (n+1)*nb<=(n+1)*1000:=Nat.mul_le_mul_left _ IJ
   _<=140737488355328:=by omega
theorem pN{w:World}{ops:Array Oper}{rest:List Oper}{o:Oper}{a:Act}{Q:Exit->Act->World->Prop}(J2:o.guard=none)(s x:Operand)
  (ho:o.op= .call {callee:= .builtin .append,args:= #[s,x],argTypes:= #[46,46]})
  (B:Nat) (v:Value) (l:List Ky) (p:Ky) (hs:a.eval s=v) (Gq:dK B w v l)
  (g:Nat) (hx:a.eval x= .slice (some ⟨g,0,none⟩) 1 1) (hg:∀(j:Nat) (u:Value),(tA p)[j]? =some u->w.cell? ((⟨g,0,none⟩:Addr).add j)=some u) (hn:l.length<=10000000000) (hB:B<=w.heap.size)
  (h:∀v' w',dK B w' v' (l++ [p])->aa (λk=>v.ownBlock=some k) w w'->wpList prog ops Q rest (a.put o.dst v') w'):wpList prog ops Q (o::rest) a w:=by
 obtain⟨i0,Px,G9,G8,G7⟩:=info_parts MS;refine wpList_append_own_at w J2 s x 46 ho B 40 i0 _ 2 24 underlying46 Px G9 G8 G7 rfl (by decide) v l.length (fT l) hs Gq ⟨g,0,none⟩ 1 1 (tA p) hx rfl hg (λu hu=> ?_) (by unfold maxLen;omega) (by omega) hB λv' w' h1 h2 _ h3=>h v' w' ?_ (aa.grown h2)
 ·simp[tA]at hu;rcases hu with rfl|rfl<;>rfl
 ·unfold dK;rw[pK,List.length_append];exact h1
theorem EK{f:Nat}{m:Mm}{q:Nat×Mm}(h:Vx f m=some q)(hf:f=14):q.1<4294967296:=by
 subst hf;obtain⟨a,h1,h2⟩:=Fi h;have:=aU h1 (by omega);by_cases ha:a=0
 ·rw[if_pos ha]at h2;rw[<-Fk h2];omega
 ·rw[if_neg ha]at h2;obtain⟨n,h3,h4⟩:=Fi h2;obtain⟨m1,h5,h6⟩:=Fi h4;rw[<-Fk h6];omega
section
variable{O:av}{μ:Mm}{w:World}
theorem rV(h:ao O μ w)(Ga:Nat)(hm:Ga<9223372036854775808)(r:List Ky)(μ':Mm)(hv:iD Ga μ=some (r,μ')):Calls prog 56 #[.pointer (some ⟨O.mb,0,none⟩),.int .i64 (Ga:Int)] w λe w'=>
  ∃vk,e= .returned (.tuple #[vk,.int .i64 0])/\dK w.heap.size w' vk r/\MG O w μ' w':=by
 obtain⟨n,h1,F6⟩:=Fi hv;obtain⟨L,h2,F0⟩:=Fi F6;have hn:=aU h1 (by omega);have HC:=Fh (aD h);have HL:=Fh (λW (hg:MG O w μ W)=>oq hg.has n h1);have G5:=h.cf;have z:¬((μ.Fq:Int)=0):=by omega
 have zz:¬(μ.Fq=0):=by omega
 have z1:decide ((Ga:Int)<0)=false:=by simp
 have FE:=Fh (MG.refl h);obtain⟨N,hN⟩:=Fp (min Ga n);have hNi:min (Ga:Int) (n:Int)=(N:Int):=by omega
 have Qw:N<=n:=by omega
 rw[<-hN]at h2;have HB:=Fh h2;have HS:=Fh F0;have HH:=Fh h;clear h hv h1 F6 h2 F0 hN G5;go_in;go_wp2_with fail;refine HC.o.mono ?_;rintro e w1⟨rfl,hb⟩;have FA:=Fh (FE.o.below hb);clear hb;go_wp2_with fail;refine(HL.o _ FA.o).mono ?_;rintro e w2⟨rfl,hg⟩;have FK:=Fh (FA.o.trans hg);clear hg;go_wp2_with fail
 go_loopw [6,22] (λs6 s22 W=>∃(l:List Nat) (m:Mm),l.length<=N/\s22= .int .i64 (l.length:Int)/\Hid (bo w.heap.size W s6 l/\MG O w m W)/\Hid (∀x∈l,x<4294967296)/\Hid (∃l2,JB (N-l.length) m=some (l2,L.2)/\l++l2=L.1)) (λ_ s22 W=>match s22 with| .int _ m=>N-m.toNat|_=>0)
 case atStart=>exact⟨[],μ,by simp,rfl,Fh ⟨dm _ _ _ _,FK.o⟩,Fh (by simp),Fh ⟨L.1,by simpa using HB.o,by simp⟩⟩
 case round=>
  obtain⟨l,m,hl,rfl,HO,HX,HF⟩:=hrel;by_cases FR:l.length<N
  ·obtain⟨l2,Iu,Gy⟩:=HF.o;obtain⟨k,hk⟩:∃k,N-l.length=k+1:=⟨N-l.length-1,by omega⟩;rw[hk,JB]at Iu;obtain⟨q,Jm,IH⟩:=Fi Iu;obtain⟨qr,Jw,Mo⟩:=Fi IH;have Wc:=Fh (zN HO.o.2.has q.1 q.2 Jm);obtain⟨A6,c6,NG⟩:=aw HO.o.1;have hlt':l.length<=10000000000:=by omega
   obtain⟨ll,G1⟩:=Fp l.length;go_wp2_with fail;refine Wc.o.mono ?_;rintro e w3⟨rfl,FZ⟩;have FT:=Fh (HO.o.2.trans FZ);have Nj:=aj HO.o.1 FZ.kept (cr HH.o HO.o.1);have hq1l:=EK Jm rfl;have SG:=(aa.refl (λ_=>False) w3).alloc (.cells #[.int .i64 (q.1:Int)] 3);have Vy:=Fh (aj Nj SG λ_ _=>id);have HG3a:=Fh (FT.o.trans ⟨FT.o.has.kept SG λ_ _=>id,SG.mono λ_ _ e=>e.elim⟩);have IP:=Fh ((Whole.new w3 3 #[.int .i64 (q.1:Int)]).cell 0);have Gh:aO (l++ [q.1])=aO l++ [.int .i64 (q.1:Int)]:=by unfold aO;simp
   have Zt:=Fh Gh;have MQ:Hid (l++ [q.1]++qr.1=L.1):=Fh (by rw[<-Gy,<-(show q.1::qr.1=l2 from congrArg Prod.fst (Fk Mo))];simp);have hqq:=Fk Mo;have e9:=congrArg Prod.snd hqq;dsimp only at e9;have HBF:Hid (JB k q.2=some (qr.1,L.2)):=Fh (by rw[Jw,<-e9]);clear hqq e9;subst NG;clear SG Nj FZ Gh Jm IH Jw Mo Iu Gy;go_wp2_with (at_builtin;refine nA IN (by decide) rfl _ _ rfl w.heap.size (.slice A6 l.length c6) l.length (aO l) rfl Vy.o w3.heap.size (.int .i64 (q.1:Int)) rfl IP.o rfl hlt' HG3a.o.kept.size ?_;intro v' w4 J6 MD;have QL:=Fh MD;have KS:=Fh J6;clear MD J6);have F9:MG O w q.2 w4:=MG.beside HH.o HG3a.o QL.o λk hk=>(aF Vy.o hk).1;exact⟨⟨l++ [q.1],q.2,by simp;omega,by simp,Fh ⟨by unfold bo;rw[Zt.o,List.length_append];exact KS.o,F9⟩,Fh (λx hx=>by rcases List.mem_append.1 hx with h1|h1;exact HX.o x h1;rw[List.mem_singleton.1 h1];exact hq1l),Fh ⟨qr.1,by rw[List.length_append];rw[show N-(l.length+ [q.1].length)=k by simp;omega];exact HBF.o,MQ.o⟩⟩,by simp;omega⟩
  ·obtain rfl:l.length=N:=by omega
   obtain⟨l2,Iu,Gy⟩:=HF.o;rw[Nat.sub_self,JB]at Iu;have e1:([]:List Nat)=l2:=congrArg Prod.fst (Fk Iu);have e2:m=L.2:=congrArg Prod.snd (Fk Iu);subst e1;rw[List.append_nil]at Gy;obtain⟨L1,L2⟩:=L;dsimp only at Gy e2 HS;subst Gy e2;obtain⟨A6,c6,NG⟩:=aw HO.o.1;subst NG;clear Iu HF HB;go_wp2_with fail
   go_loopw [7,9,32] (λs7 _ s32 W=>∃(j:Nat) (ks:List Ky) (m':Mm),j<=l.length/\s32= .int .i64 (j:Int)/\ks.length<=j/\Hid (bo w.heap.size W (.slice A6 l.length c6) l/\dK w.heap.size W s7 ks/\MG O w m' W)/\Hid (∃r2,Je (l.drop j) m'=some (r2,μ')/\ks++r2=r)) (λ_ _ s32 W=>match s32 with| .int _ m=>l.length-m.toNat|_=>0)
   case atStart=>exact⟨0,[],m,by omega,rfl,by simp,Fh ⟨HO.o.1,dm _ _ _ _,HO.o.2⟩,Fh ⟨r,by simpa using HS.o,by simp⟩⟩
   case round=>
    obtain⟨j,ks,m',hj,rfl,hks,VW,HF'⟩:=hrel;by_cases K0:j<l.length
    ·obtain⟨r2,Gc,UT⟩:=HF'.o;obtain⟨g6,rfl,Hm,hc6,hcell⟩:=bC VW.o.1 (by omega) (by decide);have hx:=hcell j _ (fv (Fl K0));obtain⟨x,hxe⟩:=Fp (l[j]);have hx32:x<4294967296:=by rw[hxe];exact HX.o _ (List.getElem_mem K0)
     rw[<-hxe]at hx;rw[List.drop_eq_getElem_cons K0,<-hxe,Je]at Gc;obtain⟨o,NH,L6⟩:=Fi Gc;have RX:=Fh (pG VW.o.2.2.has x o hx32 NH);have Oz:=Fh L6;have HCAT:=Fh UT;clear Gc NH L6 UT hcell hxe;obtain⟨A7,c7,X8⟩:=aw VW.o.2.1;subst X8;go_wp2_with fail;refine RX.o.mono ?_;rintro e w5⟨rfl,IB⟩;have HN5:=Fh (aj VW.o.1 IB.kept (cr HH.o VW.o.1));have NT:=Fh (aj VW.o.2.1 IB.kept (cr HH.o VW.o.2.1));have Gj:=Fh (VW.o.2.2.trans IB);clear IB;cases o with
     |false=>
      have L6:=Oz.o;rw[if_neg (by simp)]at L6;have Vy:=Fh L6;clear L6;go_wp2_with fail;exact⟨⟨j+1,ks,m',by omega,by go_num,by omega,Fh ⟨HN5.o,NT.o,Gj.o⟩,Fh ⟨r2,Vy.o,HCAT.o⟩⟩,by simp;omega⟩
     |true=>
      have L6:=Oz.o;rw[if_pos rfl]at L6;obtain⟨q,Jm,IH⟩:=Fi L6;obtain⟨qr,Jw,Mo⟩:=Fi IH;have HGO:=Fh (yC Gj.o.has x q hx32 Jm);have LJ:Hid (Je (l.drop (j+1)) q.2=some (qr.1,μ')):=Fh (by rw[Jw,<-(show qr.2=μ' from congrArg Prod.snd (Fk Mo))]);have O9:Hid (ks++ [q.1]++qr.1=r):=Fh (by rw[<-HCAT.o,<-(show q.1::qr.1=r2 from congrArg Prod.fst (Fk Mo))];simp);have TN:tA q.1= [.string ⟨(cY q.1.1).1.toArray⟩,.int .u16 (q.1.2:Int)]:=rfl;obtain⟨tx,GQ⟩:=Fp ((cY q.1.1).1.toArray);rw[<-GQ]at HGO TN;have HKC:=Fh TN;obtain⟨kt,hkt⟩:=Fp q.1.2;rw[<-hkt]at HGO HKC;clear L6 Jm IH Jw Mo TN GQ hkt;go_wp2_with fail;refine HGO.o.mono ?_;rintro e w6⟨rfl,W7⟩;have HN6:=Fh (aj HN5.o W7.kept (cr HH.o HN5.o));have ha6:=(aa.refl (λ_=>False) w6).alloc (.cells #[.string ⟨tx⟩,.int .u16 (kt:Int)] 40);have HN7:=Fh (aj HN6.o ha6 λ_ _=>id);have HK7:=Fh (aj (aj NT.o W7.kept (cr HH.o NT.o)) ha6 λ_ _=>id);have ZZ:=Gj.o.trans W7;have Iv:=Fh (ZZ.trans ⟨ZZ.has.kept ha6 λ_ _=>id,ha6.mono λ_ _ e=>e.elim⟩);have UH:=Fh (rT w6 [.string ⟨tx⟩,.int .u16 (kt:Int)] 40);have hks':ks.length<=10000000000:=by omega
      clear W7 ha6 ZZ;go_wp2_with (at_builtin;refine pN rfl _ _ rfl w.heap.size (.slice A7 ks.length c7) ks q.1 rfl HK7.o w6.heap.size rfl (by rw[HKC.o];exact UH.o) hks' Iv.o.kept.size ?_;intro v' w8 J8 KM;have Qm:=Fh KM;have WR:=Fh J8;clear KM J8);have Uo:MG O w q.2 w8:=MG.beside HH.o Iv.o Qm.o λk hk=>(aF HK7.o hk).1;have hn8:=aj HN7.o Qm.o λk hk e=>iN HK7.o HN7.o (by decide) hk e;exact⟨⟨j+1,ks++ [q.1],q.2,by omega,by go_num,by simp;omega,Fh ⟨hn8,WR.o,Uo⟩,Fh ⟨qr.1,LJ.o,O9.o⟩⟩,by simp;omega⟩
    ·obtain rfl:j=l.length:=by omega
     obtain⟨r2,Gc,UT⟩:=HF'.o;rw[List.drop_length,Je]at Gc;have e1:([]:List Ky)=r2:=congrArg Prod.fst (Fk Gc);have e2:m'=μ':=congrArg Prod.snd (Fk Gc);subst e1;rw[List.append_nil]at UT;subst UT e2;go_wp2;go_ret2;exact⟨_,rfl,VW.o.2.1,VW.o.2.2⟩
end
structure jL(O:av)(w:World):Prop where
 m:zU w
 n:¬au O 3
theorem jL.kept{O:av}{w W:World}(h:jL O w)(k:aa (au O) w W):jL O W:=⟨by
 obtain⟨m,hm⟩:=h.m;exact⟨m,k.cell hm h.n⟩,h.n⟩
theorem pO{s:List UInt8}:(aC s).1.length<=255/\∀x∈(aC s).1,x.length<=63:=by
 unfold aC;split
 ·simp
 ·split
  ·rename_i h
   refine⟨by have:=Ir (F5 (FI (bi s)));have:=bQ h;dsimp only;omega,λx hx=> ?_⟩;have:=bH h x hx;unfold aG at this;split at this
   ·cases this
   ·omega
  ·simp
section
variable{O:av}{μ:Mm}{w:World}{cb bk d:Nat}
theorem fw(h:dt cb bk O μ d w):Calls prog 38 #[.pointer (some ⟨cb,0,none⟩)] w λe w'=>e= .returned (.int .i64 (if 0<d then 10 else 0))/\w'=w:=by
 obtain⟨c0,c1⟩:=h.cc;have HN:=Fh (mQ h);have HB:=Fh (uk h);by_cases hd:0<d
 ·rw[if_pos hd];rw[decide_eq_true hd]at HB;clear h hd;go_in;go_wp2_with fail;refine HN.o.mono ?_;rintro e w1⟨rfl,rfl⟩;go_wp2_with fail;refine HB.o.mono ?_;rintro e w2⟨rfl,rfl⟩;go_wp2;go_ret;exact⟨rfl,rfl⟩
 ·rw[if_neg hd];rw[decide_eq_false hd]at HB;clear h hd;go_in;go_wp2_with fail;refine HN.o.mono ?_;rintro e w1⟨rfl,rfl⟩;go_wp2_with fail;refine HB.o.mono ?_;rintro e w2⟨rfl,rfl⟩;go_wp2;go_ret;exact⟨rfl,rfl⟩
theorem CG.alloc{W:World}(h:CG cb bk O d w μ W)(o:Obj):CG cb bk O d w μ (W.alloc o):=h.on ((MG.refl h.mg.has).alloc o)
theorem rW(h:dt cb bk O μ d w)(hm:jL O w)(nm:ByteArray)(hl:nm.size<=100000)(typ:Nat)(ht:typ<65536)(q:(Nat×Int)×Mm)(hv:dX (decide (0<d)) nm.data.toList typ μ=some q):
  Calls prog 51 #[.pointer (some ⟨cb,0,none⟩),.agg #[.string nm,.int .u16 (typ:Int)]] w λe w'=>e= .returned (.tuple #[.int .i64 (q.1.1:Int),.int .i64 q.1.2])/\MG O w q.2 w':=by
 have HH:=Fh h.m;have GN:=(CG.of h).alloc (.cells #[.string nm,.int .u16 (typ:Int)] 40);obtain⟨w1,FJ⟩:=Fp (w.alloc (.cells #[.string nm,.int .u16 (typ:Int)] 40));have JQ:Whole w1 w.heap.size 40 #[.string nm,.int .u16 (typ:Int)]:=by rw[FJ];exact Whole.new _ _ _
 have LZ:=h.m.Fu (Fm _);have hp:=rF nm.data.toList w1 (hm.kept (by rw[FJ];exact(aa.refl _ w).alloc _)).m (by simpa using hl);rw[uK]at hp;obtain⟨Ho,Z0⟩:= @pO nm.data.toList;obtain⟨P,hP⟩:=Fp (aC nm.data.toList);unfold dX at hv;rw[<-hP]at hp Ho Z0 hv;obtain⟨ls,er⟩:=P;rw[<-FJ]at GN;have JS:=Fh GN;have X7:=Fh JQ;have Nd:=Fh hp;have HV:=Fh hv;have HPX:=Fh Z0;have k0:=JQ.cell 0;have k1:=JQ.cell 1;dsimp only at Ho hv;clear h hm GN JQ hp Z0 hP;by_cases Ih:er=0
 ·subst Ih;rw[if_neg (by simp)]at hv;obtain⟨a,F6,F0⟩:=Fi hv;have Qn:=Fh F0;have HV1:=Fh F6;clear hv F6 F0;go_in;go_upto_region 1 with fail;rw[<-FJ];clear FJ;go_wp2_with fail;refine Nd.o.mono ?_;rintro e w2⟨A,c,rfl,Gh,Lm,FF,hA⟩;have Mj:=Fh (JS.o.below FF);have Jg:=(MG.refl JS.o.mg.has).below FF;have Jc:=Jg.kept.whole X7.o LZ;have k0':=Jc.cell 0;have k1':=Jc.cell 1;have hLR:iZ O w2 A ls:=⟨Gh,λa ha=>by
   have:=hA a ha;exact JS.o.mg.has.Fu this⟩
  have Jv:=Fh (rQ Mj.o.has A c ls typ a hLR (by omega) (λs hs=>by have:=HPX.o s hs;omega) ht HV1.o);obtain⟨n,hn⟩:=Fp ls.length;rw[<-hn]at Jv;have Pb:(ls,(0:Int)).1.length=n:=hn.symm;obtain⟨_,x0,x1⟩:=Mj.o.held;clear Gh Lm FF hA Jg Jc hLR k0 k1;rw[Pb];clear hn Pb;go_wp2_with fail;refine Jv.o.mono ?_;rintro e w3⟨rfl,FZ⟩;have IP:=Fh (Mj.o.on FZ);clear FZ x0 x1 k0' k1';obtain⟨_,x0,x1⟩:=IP.o.held;by_cases G6:a=0
  ·have hq:=Qn.o;rw[if_pos G6]at hq;have HQ:=Fh (Fk hq);subst G6;clear hq;go_wp2;go_ret2;rw[<-HQ.o];exact⟨rfl,IP.o.mg⟩
  ·have hq:=Qn.o;rw[if_neg G6]at hq;obtain⟨o,NH,L6⟩:=Fi hq;have Nk:a<4294967296:=nh HV1.o;have RX:=Fh (uZ IP.o.has a o Nk NH);have z:decide (a=0)=false:=by simp[G6]
   have zi:¬((a:Int)=0):=by omega
   cases o with
   |false=>
    rw[if_neg (by simp)]at L6;have HQ:=Fh (Fk L6);clear hq NH L6;go_wp2_with fail;refine RX.o.mono ?_;rintro e w4⟨rfl,F9⟩;have L8:=Fh (IP.o.on F9);clear F9;go_wp2;go_ret2;rw[<-HQ.o];exact⟨rfl,L8.o.mg⟩
   |true=>
    rw[if_pos rfl]at L6;obtain⟨m1,Ub,hd2⟩:=Fi L6;have HQ:=Fh (Fk hd2);have HD1:=Fh Ub;clear hq NH L6 Ub hd2;go_wp2_with fail;refine RX.o.mono ?_;rintro e w4⟨rfl,F9⟩;have L8:=Fh (IP.o.on F9);clear F9 x0 x1;obtain⟨_,x0,x1⟩:=L8.o.held;have HBU:=Fh (uk L8.o.has);obtain⟨b,hb⟩:=Fp (decide (0<d));rw[<-hb]at HBU HD1;clear hb;go_wp2_with fail;refine HBU.o.mono ?_;rintro e w5⟨rfl,rfl⟩;cases b with
    |true=>
     have IZ:=HD1.o;rw[if_pos rfl]at IZ;have IZ:=Fk IZ;subst IZ;go_wp2;go_ret2;rw[<-HQ.o];exact⟨rfl,L8.o.mg⟩
    |false=>
     have IZ:=HD1.o;rw[if_neg (by simp)]at IZ;have Zo:=Fh (rR L8.o.has a m1 Nk IZ);clear IZ;go_wp2_with fail;refine Zo.o.mono ?_;rintro e w6⟨rfl,Hm⟩;have UU:=Fh (L8.o.on Hm);clear Hm;go_wp2;go_ret2;rw[<-HQ.o];exact⟨rfl,UU.o.mg⟩
 ·rw[if_pos Ih]at hv;have HQ:=Fh (Fk hv);clear hv;have z:decide (er=0)=false:=by simp[Ih]
  go_in;go_upto_region 1 with fail;rw[<-FJ];clear FJ;go_wp2_with fail;refine Nd.o.mono ?_;rintro e w2⟨A,c,rfl,Gh,Lm,FF,hA⟩;have Mj:=Fh (JS.o.below FF);clear Gh Lm FF hA;go_wp2;go_ret2;rw[<-HQ.o];exact⟨rfl,Mj.o.mg⟩
end
end Go.Proofs.YtifkphcaelafjaaGreatDoor
