/-
  Lemmas on the way to the row. No condition beyond their own.
-/
import Derived.Defers
import Derived.Lib.AppendStr
import Derived.Recover
import Derived.Shelf.Strings.OnBuilder
import Derived.Shelf.Strings.Prefix
import Derived.Shelf.Strings.Split
import Derived.Test.YtifkphcaelafjaaGreatDoorQ07
set_option maxHeartbeats 25600000
set_option maxRecDepth 100000
set_option linter.unusedVariables false
set_option linter.unusedSimpArgs false
namespace Go.Proofs.YtifkphcaelafjaaGreatDoor
open Tryz
open Go.RowKit Go.Fy Go.Colm Go.Fz
def eP(l:List (List UInt8)):Int:=if l.all (λs=>aG s==0)then 0 else 20
theorem wU{l:List (List UInt8)}{k:Nat}(hk:k<l.length)(h:aG l[k]≠0):eP l=20:=by
 unfold eP;rw[if_neg];intro ha;rw[List.all_eq_true]at ha;have:=ha l[k] (List.getElem_mem _);simp at this;exact h this
theorem zQ{l:List (List UInt8)}(h:∀j,(hj:j<l.length)->aG l[j]=0):eP l=0:=by
 unfold eP;rw[if_pos];rw[List.all_eq_true];intro s hs;obtain⟨j,hj,rfl⟩:=List.getElem_of_mem hs;simp[h j hj]
theorem zR{W:World}{s:List UInt8}(h:s.length<=70368744177664):Calls prog 151 #[.string ⟨s.toArray⟩] W λe w'=>e= .returned (.int .i64 (aG s))/\Below W.heap.size W w':=
 IC ⟨s.toArray⟩ W (by show s.toArray.size<=_;simp only [List.size_toArray];omega)
theorem zS(l:List (List UInt8))(A:Option Addr)(c:Nat)(w:World)(hr:aM w A (fN l))(hl:l.length<=9223372036854775807)(F8:∀s∈l,s.length<=70368744177664):
  Calls prog 150 #[.slice A l.length c,.func (.func 151) #[] #[]] w λe w'=>e= .returned (.int .i64 (eP l))/\Below w.heap.size w w':=by
 have HR:=Fh hr;have IA:=Fh F8;clear hr F8;go_in;go_wp2_with fail
 go_loopw [10] (λi wr=>∃k:Nat,k<=l.length/\i= .int .i64 k/\Hid (∀j,j<k->(hj:j<l.length)->aG l[j]=0)/\Below w.heap.size w wr) (λi _=>l.length-(intOf i).toNat)
 case atStart=>exact⟨0,Nat.zero_le _,rfl,Fh (by intro j hj;omega),Below.refl _ _⟩
 case round=>
  obtain⟨k,hk,rfl,HO,XT⟩:=hrel;by_cases FR:k<l.length
  ·obtain⟨b,off,rfl,hc⟩:=lY (HR.o.below XT) FR;have Us:=λW=>zR (W:=W) (IA.o l[k] (List.getElem_mem _));obtain⟨le,hle⟩:=Fp (aG l[k]);simp only [<-hle]at Us;obtain⟨sk,Ng⟩:=Fp (ByteArray.mk l[k].toArray);rw[<-Ng]at hc;simp only [<-Ng]at Us;have HLAB:=Fh Us;by_cases h0:le=0
   ·have Oz:Hid (∀j,j<k+1->(hj:j<l.length)->aG l[j]=0):=Fh (by
     intro j hj hj1;rcases Nat.lt_or_ge j k with h|h
     ·exact HO.o j h hj1
     ·have:j=k:=by omega
      subst this;exact hle▸h0)
    subst h0;clear Us hle Ng;go_wp2_with fail;refine(HLAB.o _).mono ?_;rintro e w2⟨rfl,FF⟩;go_wp2;go_roundw
    case rel=>exact⟨k+1,by omega,by go_num,Oz,ah XT FF⟩
    case measure=>simp[intOf];omega
   ·have t1:(le !=0)=true:=by rwa [bne_iff_ne]
    have NE:le=20:=by
     rcases QD l[k]with h|h
     ·exact absurd (hle.trans h) h0
     ·exact hle.trans h
    have HF:Hid (eP l=le):=Fh (by rw[NE];exact wU FR (hle▸h0));clear Us hle Ng NE h0;go_wp2_with fail;refine(HLAB.o _).mono ?_;rintro e w2⟨rfl,FF⟩;go_wp2;go_ret;exact⟨aH HF.o.symm,ah XT FF⟩
  ·have HF:=Fh (zQ λj hj=>HO.o j (by omega) hj);go_wp2;go_ret;exact⟨aH HF.o.symm,XT⟩
theorem mW(l:List (List UInt8))(A:Option Addr)(c:Nat)(w:World)(hr:aM w A (fN l))(hl:FQ l<1099511627776)(F8:∀s∈l,s.length<=70368744177664):
  Calls prog 86 #[.slice A l.length c] w λe w'=>e= .returned (.int .i64 (aI l))/\Below w.heap.size w w':=by
 have hlen:=Ir l;have hf:=zS l A c w hr (by omega) F8;have JA:aI l=if eP l=0 then(if 255<FQ l then 21 else 0)else 20:=by
  unfold aI eP;split<;>simp
 have h2:eP l=0\/eP l=20:=by
  unfold eP;split
  ·exact .inl rfl
  ·exact .inr rfl
 have hw:=λW (hb:Below w.heap.size w W)=>BE l A c W (hr.below hb) hl;obtain⟨fl,hfl⟩:=Fp (eP l);obtain⟨WL,hWL⟩:=Fp (FQ l);rw[<-hfl]at hf h2;rw[<-hfl,<-hWL]at JA;simp only [<-hWL]at hw;have HF:=Fh hf;have HW:=Fh hw;have Wu:=Fh JA;clear hf hw JA hfl hWL hr hlen;rcases h2 with rfl|rfl
 ·by_cases h3:255<WL
  all_goals
   go_in;go_wp2_with fail;refine HF.o.mono ?_;rintro e w2⟨rfl,FF⟩;go_wp2_with fail;refine(HW.o _ FF).mono ?_;rintro e w3⟨rfl,rfl⟩;go_wp2;go_ret;refine⟨aH ?_,FF⟩;rw[Wu.o];simp[h3]
 ·go_in;go_wp2_with fail;refine HF.o.mono ?_;rintro e w2⟨rfl,FF⟩;go_wp2;go_ret;refine⟨aH ?_,FF⟩;rw[Wu.o];simp
open Go.Shelf
def Zj:Go.Shelf.Ren:=⟨λ|138=>238|143=>239|146=>83|195=>310|197=>311|217=>345|218=>312|219=>313|221=>144|224=>304|225=>346|260=>344|266=>359|267=>347|268=>237|314=>360|n=>n,λ|0=>0|3=>3|4=>4|5=>5|9=>9|21=>21|31=>80|46=>147|51=>163|105=>333|119=>376|138=>378|139=>379|146=>361|n=>n,λ|1=>3|3=>6|4=>7|n=>n⟩
theorem Wv:Go.Proofs.Lays.n146 prog Zj:= {
 mixed:=by kernel_rfl
 f138:=func238.trans (congrArg some (by kernel_rfl))
 f143:=func239.trans (congrArg some (by kernel_rfl))
 f146:=func83.trans (congrArg some (by kernel_rfl))
 f195:=func310.trans (congrArg some (by kernel_rfl))
 f197:=func311.trans (congrArg some (by kernel_rfl))
 f217:=func345.trans (congrArg some (by kernel_rfl))
 f218:=func312.trans (congrArg some (by kernel_rfl))
 f219:=func313.trans (congrArg some (by kernel_rfl))
 f221:=func144.trans (congrArg some (by kernel_rfl))
 f224:=func304.trans (congrArg some (by kernel_rfl))
 f225:=func346.trans (congrArg some (by kernel_rfl))
 f260:=func344.trans (congrArg some (by kernel_rfl))
 f266:=func359.trans (congrArg some (by kernel_rfl))
 f267:=func347.trans (congrArg some (by kernel_rfl))
 f268:=func237.trans (congrArg some (by kernel_rfl))
 f314:=func360.trans (congrArg some (by kernel_rfl))
 t0:=underlying0
 a0:=isAgg0
 z0:=sizeOf0
 v0:=zeroValue0
 t3:=underlying3
 a3:=isAgg3
 z3:=sizeOf3
 v3:=zeroValue3
 t4:=underlying4
 a4:=isAgg4
 z4:=sizeOf4
 v4:=zeroValue4
 t5:=underlying5
 a5:=isAgg5
 z5:=sizeOf5
 v5:=zeroValue5
 t9:=underlying9
 a9:=isAgg9
 z9:=sizeOf9
 v9:=zeroValue9
 t21:=underlying21
 a21:=isAgg21
 z21:=sizeOf21
 v21:=zeroValue21
 t31:=underlying80
 a31:=isAgg80
 z31:=sizeOf80
 v31:=zeroValue80
 t46:=underlying147
 a46:=isAgg147
 z46:=sizeOf147
 v46:=zeroValue147
 t51:=underlying163
 a51:=isAgg163
 z51:=sizeOf163
 v51:=zeroValue163
 t105:=underlying333
 a105:=isAgg333
 z105:=sizeOf333
 v105:=zeroValue333
 t119:=underlying376
 a119:=isAgg376
 z119:=sizeOf376
 t138:=underlying378
 a138:=isAgg378
 z138:=sizeOf378
 v138:=zeroValue378
 t139:=underlying379
 a139:=isAgg379
 z139:=sizeOf379
 v139:=zeroValue379
 t146:=underlying361
 a146:=isAgg361
 z146:=sizeOf361
 v146:=zeroValue361
 g1:=by kernel_rfl
 g3:=by kernel_rfl
 g4:=by kernel_rfl}
def Zk:Go.Shelf.Ren:=⟨λ|102=>85|207=>242|209=>149|n=>n,λ|3=>3|4=>4|9=>9|n=>n,λ|n=>n⟩
theorem Ww:Go.Proofs.Lays.n102 prog Zk:= {
 mixed:=by kernel_rfl
 f102:=func85.trans (congrArg some (by kernel_rfl))
 f207:=func242.trans (congrArg some (by kernel_rfl))
 f209:=func149.trans (congrArg some (by kernel_rfl))
 t3:=underlying3
 a3:=isAgg3
 z3:=sizeOf3
 v3:=zeroValue3
 t4:=underlying4
 a4:=isAgg4
 z4:=sizeOf4
 v4:=zeroValue4
 t9:=underlying9
 a9:=isAgg9
 z9:=sizeOf9
 v9:=zeroValue9}
open Go.RowKit in
theorem zT(s sep:ByteArray)(m:Int)(w:World)(hs:s.size<4294967281)(hm:w.cell? ⟨3,0,none⟩=some (.int .i64 m))(h1:1<=sep.size):
  Calls prog 83 #[.string s,.string sep] w λe w'=>
   e= .returned (.slice (some ⟨w.heap.size,0,none⟩) (Lib.countB s sep+1) (Lib.countB s sep+1))/\w'=w.alloc (.cells ((Lib.splitB sep 0 (Lib.countB s sep) s).map Value.string).toArray 9):=
 Any.strings_Split Wv (by kernel_rfl) s sep m w hs hm h1
open Go.RowKit in
theorem BV(s suffix:ByteArray)(w:World)(hs:s.size<=9223372036854775807):
  Calls prog 85 #[.string s,.string suffix] w λe w'=>e= .returned (.string ⟨(Lib.trimSuffix s.data.toList suffix.data.toList).toArray⟩)/\w'=w:=
 Any.strings_TrimSuffix Ww s suffix w hs
def Ut:Go.Shelf.Ren:=⟨λ|156=>357|165=>145|166=>367|169=>148|240=>240|241=>241|276=>314|277=>315|n=>n,λ|0=>0|3=>3|4=>4|5=>5|9=>9|20=>20|31=>80|37=>73|70=>211|72=>213|75=>215|76=>384|80=>217|127=>276|164=>336|n=>n,λ|n=>n⟩
theorem Wx:Go.Proofs.Lays.n156 prog Ut:= {
 mixed:=by kernel_rfl
 f156:=func357.trans (congrArg some (by kernel_rfl))
 f165:=func145.trans (congrArg some (by kernel_rfl))
 f166:=func367.trans (congrArg some (by kernel_rfl))
 f169:=func148.trans (congrArg some (by kernel_rfl))
 f240:=func240.trans (congrArg some (by kernel_rfl))
 f241:=func241.trans (congrArg some (by kernel_rfl))
 f276:=func314.trans (congrArg some (by kernel_rfl))
 f277:=func315.trans (congrArg some (by kernel_rfl))
 t0:=underlying0
 a0:=isAgg0
 z0:=sizeOf0
 v0:=zeroValue0
 t3:=underlying3
 a3:=isAgg3
 z3:=sizeOf3
 v3:=zeroValue3
 t4:=underlying4
 a4:=isAgg4
 z4:=sizeOf4
 v4:=zeroValue4
 t9:=underlying9
 a9:=isAgg9
 z9:=sizeOf9
 v9:=zeroValue9
 t20:=underlying20
 a20:=isAgg20
 z20:=sizeOf20
 v20:=zeroValue20
 t31:=underlying80
 a31:=isAgg80
 z31:=sizeOf80
 v31:=zeroValue80
 t37:=underlying73
 a37:=isAgg73
 z37:=sizeOf73
 v37:=zeroValue73
 t70:=underlying211
 a70:=isAgg211
 z70:=sizeOf211
 v70:=zeroValue211
 t72:=underlying213
 a72:=isAgg213
 z72:=sizeOf213
 v72:=zeroValue213
 t75:=underlying215
 a75:=isAgg215
 z75:=sizeOf215
 v75:=zeroValue215
 t76:=underlying384
 a76:=isAgg384
 z76:=sizeOf384
 v76:=zeroValue384
 t127:=underlying276
 a127:=isAgg276
 z127:=sizeOf276
 v127:=zeroValue276
 t164:=underlying336
 a164:=isAgg336
 z164:=sizeOf336
 v164:=zeroValue336}
theorem Uu:Builder.Extra prog Ut:= {
 sizeBuilder:=by kernel_rfl
 liesBuilder:=by kernel_rfl
 t5:=underlying5
 a5:=isAgg5
 z5:=sizeOf5
 v5:=zeroValue5
 infoByte:=by kernel_rfl
 cellsByte:=by kernel_rfl
 sizeByte:=by kernel_rfl
 neB5:=by decide}
open Go.RowKit in
theorem BW(bk o c:Nat)(xs:List ByteArray)(sep:ByteArray)(w:World)(Rb:∀(j:Nat) x,xs[j]? =some x->w.cell? ⟨bk,o+j,none⟩=some (.string x))(Jg:bk<w.heap.size)(hN:xs.length<=140737488355328)(Ot:xs.length<=c)
  (hlen:(Lib.join (xs.map (·.data.toList)) sep.data.toList).length<=140737488355328):
  Calls prog 357 #[.slice (some ⟨bk,o,none⟩) xs.length c,.string sep] w λe w'=>e= .returned (.string ⟨(Lib.join (xs.map (·.data.toList)) sep.data.toList).toArray⟩)/\Below w.heap.size w w':=
 Any.strings_Join Wx Uu bk o c xs sep w Rb Jg hN Ot hlen
open Go.RowKit in
def zU(w:World):Prop:=∃m:Int,w.cell? ⟨3,0,none⟩=some (.int .i64 m)
theorem zU.below{w w':World}(h:zU w)(hb:Below w.heap.size w w'):zU w':=by
 obtain⟨m,hm⟩:=h;exact⟨m,(hb.cell (ap hm)).trans hm⟩
def km(w:World)(g:List (List UInt8)×Int)(e:Ending)(w':World):Prop:=
 ∃A c,e= .returned (.tuple #[.slice A g.1.length c,.int .i64 g.2])/\aM w' A (fN g.1)/\g.1.length<=c/\Below w.heap.size w w'/\∀a,A=some a->w.heap.size<=a.block
theorem km.err{w w':World}{g:List (List UInt8)×Int}{x:Int}(h:g=([],x))(hb:Below w.heap.size w w'):km w g (.returned (.tuple #[.slice none 0 0,.int .i64 x])) w':=by
 subst h;exact⟨none,0,rfl,aM.nil _ _,Fm _,hb,λa h=>by cases h⟩
theorem uK(b:ByteArray):(⟨b.data.toList.toArray⟩:ByteArray)=b:=by
 obtain⟨a⟩:=b;simp
theorem uL(t:List UInt8)(W:World)(hm:zU W)(ht:t.length<4294967281):
  Calls prog 83 #[.string ⟨t.toArray⟩,.string ⟨#[46]⟩] W λe w'=>∃A c,e= .returned (.slice A (F5 t).length c)/\aM w' A (fN (F5 t))/\(F5 t).length<=c/\Below W.heap.size W w'/\∀a,A=some a->W.heap.size<=a.block:=by
 obtain⟨m,hm⟩:=hm;refine(zT ⟨t.toArray⟩ ⟨#[46]⟩ m W (by rw[eH];omega) hm (by decide)).mono ?_;rintro e w'⟨rfl,rfl⟩;have hd:=Lib.splitB_data ⟨#[46]⟩ 0 (Lib.countB ⟨t.toArray⟩ ⟨#[46]⟩) ⟨t.toArray⟩;have Na:Lib.countB ⟨t.toArray⟩ ⟨#[46]⟩=Lib.count t [46]:=by simp[Lib.countB]
 have hs:Lib.splitK ([46]:List UInt8) 0 (Lib.count t [46]) t=F5 t:=NS t;have hd2:(Lib.splitB ⟨#[46]⟩ 0 (Lib.countB ⟨t.toArray⟩ ⟨#[46]⟩) ⟨t.toArray⟩).map (·.data.toList)=F5 t:=by
  rw[hd,Na];exact hs
 have hlen:=Lib.splitB_all ⟨#[46]⟩ (by decide) 0 _ ⟨t.toArray⟩ rfl;have Iu:(F5 t).length=Lib.countB ⟨t.toArray⟩ ⟨#[46]⟩+1:=by rw[<-hd2,List.length_map,hlen]
 refine⟨_,_,by rw[Iu],?_,by omega,(Below.refl _ _).alloc (Fm _) _,λa h=>by cases h;exact Fm _⟩;have Gh:=aM.new W 9 ((Lib.splitB ⟨#[46]⟩ 0 (Lib.countB ⟨t.toArray⟩ ⟨#[46]⟩) ⟨t.toArray⟩).map Value.string).toArray;have he:fN (F5 t)=((Lib.splitB ⟨#[46]⟩ 0 (Lib.countB ⟨t.toArray⟩ ⟨#[46]⟩) ⟨t.toArray⟩).map Value.string).toArray.toList:=by
  rw[<-hd2,fN,List.map_map];simp
 rw[he];exact Gh
theorem rF(l:List UInt8)(w:World)(hm:zU w)(hl:l.length<=100000):
  Calls prog 39 #[.string ⟨l.toArray⟩] w (km w (aC l)):=by
 have F8:=eH l;have htr:=λW=>BV ⟨l.toArray⟩ ⟨#[46]⟩ W (by omega);have FR:=oC l;have G1:=gi (bi l);have OF:=λW=>j8 ⟨(bi l).toArray⟩ W (by rw[eH];omega);have Ki:=λW hm=>uL (FI (bi l)) W hm (by omega);have hw:=LC (FI (bi l));have heq:((ByteArray.mk l.toArray).toList== [46])=decide (l= [46]):=by
  rw[ByteArray.toList_mk,Bool.eq_iff_iff];simp
 have Wy:∀W,Calls prog 85 #[.string ⟨l.toArray⟩,.string ⟨#[46]⟩] W λe w'=>e= .returned (.string ⟨(bi l).toArray⟩)/\w'=W:=λW=>by simpa[bi]using htr W
 have Wz:∀W,Calls prog 84 #[.string ⟨(bi l).toArray⟩] W λe w'=>e= .returned (.string ⟨(FI (bi l)).toArray⟩)/\Below W.heap.size W w':=λW=>by simpa using OF W
 have Ho:aC l=if l= [46]then([],0)else if aI (F5 (FI (bi l)))=0 then(F5 (FI (bi l)),0)else([],aI (F5 (FI (bi l)))):=rfl
 obtain⟨ps,KC⟩:=Fp (F5 (FI (bi l)));simp only [<-KC]at Ki hw Ho;have JA:∀A c W,aM W A (fN ps)->Calls prog 86 #[.slice A ps.length c] W λe w'=>e= .returned (.int .i64 (aI ps))/\Below W.heap.size W w':=λA c W hr=>mW ps A c W hr (by omega) (λs hs=>by have:=KY hs;omega);obtain⟨ce,hce⟩:=Fp (aI ps);simp only [<-hce]at JA Ho;obtain⟨sv,Zl⟩:=Fp (ByteArray.mk l.toArray);obtain⟨tv,htv⟩:=Fp (ByteArray.mk (bi l).toArray);obtain⟨lv,QX⟩:=Fp (ByteArray.mk (FI (bi l)).toArray);simp only [<-Zl]at Wy heq;simp only [<-htv]at Wy Wz;simp only [<-QX]at Wz Ki;rw[<-Zl];have HTR:=Fh Wy;have VO:=Fh Wz;have Tt:=Fh Ki;have Wu:=Fh JA;have Jv:=Fh Ho;have HM:=Fh hm;clear htr Wy OF Wz Ki JA Ho hm Zl htv QX KC hce hw FR G1 F8;by_cases h46:l= [46]
 ·have t1:(sv.toList== [46])=true:=by rw[heq,decide_eq_true h46]
  have HF:=Fh (km.err (g:=aC l) (w:=w) (by rw[Jv.o,if_pos h46]) (Below.refl _ w));clear heq h46;go_in;go_wp2;go_ret2;exact HF.o
 ·have t1:(sv.toList== [46])=false:=by rw[heq,decide_eq_false h46]
  have HPL2:Hid (aC l=if ce=0 then(ps,0)else([],ce)):=Fh (by rw[Jv.o,if_neg h46]);clear heq h46 Jv;go_in;go_wp2_with fail;refine(HTR.o _).mono ?_;rintro e w1⟨rfl,FJ⟩;rw[FJ];clear FJ w1;go_wp2_with fail;refine(VO.o _).mono ?_;rintro e w2⟨rfl,FF⟩;have Gx:=Fh FF;clear FF;go_wp2_with fail;refine(Tt.o _ (HM.o.below Gx.o)).mono ?_;rintro e w3⟨A3,c3,rfl,Jq,hc3,Gf,hA3⟩;have HA3:Hid (∀a,A3=some a->w.heap.size<=a.block):=Fh λa h=>Nat.le_trans Gx.o.size (hA3 a h);clear hA3;have Nc:=Fh Jq;have M9:=Fh (ah Gx.o Gf);clear Jq Gf;go_wp2_with fail;refine(Wu.o _ _ _ Nc.o).mono ?_;rintro e w4⟨rfl,Gk⟩;have Lc:=Fh (Nc.o.below Gk);have IM:=Fh (ah M9.o Gk);clear Gk;by_cases h0:ce=0
  ·have HF:Hid (km w (aC l) (.returned (.tuple #[.slice A3 ps.length c3,.int .i64 0])) w4):=Fh (by
    rw[HPL2.o,if_pos h0];exact⟨A3,c3,rfl,Lc.o,hc3,IM.o,HA3.o⟩)
   subst h0;go_wp2;go_ret2;exact HF.o
  ·have t2:(ce !=0)=true:=by rwa [bne_iff_ne]
   have HF:=Fh (km.err (g:=aC l) (w:=w) (w':=w4) (by rw[HPL2.o,if_neg h0]) IM.o);clear h0;go_wp2;go_ret2;exact HF.o
def mX(w:World)(g:List UInt8×Int)(e:Ending)(w':World):Prop:=
 e= .returned (.tuple #[.string ⟨g.1.toArray⟩,.int .i64 g.2])/\Below w.heap.size w w'
theorem mX.mk{w w':World}{g:List UInt8×Int}{x:Int}{s:List UInt8}(h:g=(s,x))(hb:Below w.heap.size w w'):mX w g (.returned (.tuple #[.string ⟨s.toArray⟩,.int .i64 x])) w':=by
 subst h;exact⟨rfl,hb⟩
theorem BY(l:List (List UInt8))(A:Option Addr)(c:Nat)(w:World)(hr:aM w A (fN l))(Ot:l.length<=c)(hl:FQ l<1099511627776):
  Calls prog 337 #[.slice A l.length c] w (mX w (cY l)):=by
 have hlen:=Ir l;have JA:=mW l A c w hr hl (λs hs=>by have:=KY hs;omega);have GQ:cY l=if aI l=0 then(if l= []then([46],0)else(Lib.join l [46],0))else([],aI l):=rfl
 have K0:=TI l;have hj:l≠ []->∀W,Below w.heap.size w W->Calls prog 357 #[.slice A l.length c,.string ⟨#[46]⟩] W λe w'=>e= .returned (.string ⟨(Lib.join l [46]).toArray⟩)/\Below W.heap.size W w':=λhne W hb=>by
  have h0:0<l.length:=List.length_pos_iff.2 hne;have hrW:=hr.below hb;obtain⟨bk,o,e,QU⟩:=lY hrW h0;have:=BW bk o c (l.map λs=>⟨s.toArray⟩) ⟨#[46]⟩ W (λj x hx=>by
   obtain⟨s,hs,rfl⟩:=List.mem_map.1 (List.mem_of_getElem? hx);rw[List.getElem?_map]at hx;obtain⟨y,hy,e2⟩:=Option.map_eq_some_iff.1 hx;obtain⟨K0,rfl⟩:=List.getElem?_eq_some_iff.1 hy;obtain⟨b2,o2,e3,KQ⟩:=lY hrW K0;rw[e]at e3;cases e3;rw[KQ,e2]) (ap QU) (by rw[List.length_map];omega) (by rw[List.length_map];exact Ot) (by
   rw[List.map_map];have:((λx:ByteArray=>x.data.toList)∘ λs:List UInt8=>(⟨s.toArray⟩:ByteArray))=id:=by funext s;simp
   rw[this,List.map_id];show(Lib.join l [46]).length<=_;omega)
  rw[List.length_map,List.map_map]at this;have h2:((λx:ByteArray=>x.data.toList)∘ λs:List UInt8=>(⟨s.toArray⟩:ByteArray))=id:=by funext s;simp
  rw[h2,List.map_id]at this;rw[e];exact this
 obtain⟨jl,hjv⟩:=Fp (Lib.join l [46]);simp only [<-hjv]at hj GQ;obtain⟨ce,hce⟩:=Fp (aI l);simp only [<-hce]at JA GQ;have Wu:=Fh JA;have X5:=Fh GQ;have HJ:=Fh hj;clear hr JA GQ hj K0 hjv hce hlen;go_in;go_wp2_with fail;refine Wu.o.mono ?_;rintro e w2⟨rfl,FF⟩;have Gx:=Fh FF;clear FF;by_cases h0:ce=0
 ·by_cases hne:l= []
  ·have HF:=Fh (mX.mk (g:=cY l) (w:=w) (w':=w2) (s:= [46]) (x:=0) (by rw[X5.o,if_pos h0,if_pos hne]) Gx.o);subst h0;subst hne;go_wp2;go_ret2;exact HF.o
  ·have hlp:0<l.length:=List.length_pos_iff.2 hne;have HF:=Fh (λ(w':World) (hb:Below w.heap.size w w')=>mX.mk (g:=cY l) (w:=w) (w':=w') (s:=jl) (x:=0) (by rw[X5.o,if_pos h0,if_neg hne]) hb);have Y8:=Fh (HJ.o hne w2 Gx.o);subst h0;clear hne;go_wp2_with fail;refine Y8.o.mono ?_;rintro e w3⟨rfl,Gf⟩;go_wp2;go_ret2;exact HF.o _ (ah Gx.o Gf)
 ·have t2:(ce !=0)=true:=by rwa [bne_iff_ne]
  have HF:=Fh (mX.mk (g:=cY l) (w:=w) (w':=w2) (s:= []) (x:=ce) (by rw[X5.o,if_neg h0]) Gx.o);clear h0;go_wp2;go_ret2;exact HF.o
open Go.FC Go.Maps Go.FP
theorem dI(p:Addr)(w:World):
  CallsD prog 249 #[.pointer (some p)] .returning w λe u' w'=>e= .returned (.tuple #[])/\u'= .returning/\w'=w:=by
 refine callsD_of_wpS func249 rfl λc₀ cs hu=> ?_;apply wpS_seq;apply wpS_region;simp[wpOpsS,go_sem,recoverD,hu,ntmps249,Exit.thenS];refine wpS_of_wp ?_;go_wp2;cases c₀
 simp_all [bodyPostS,results,results249]
theorem dJ(x:Int)(w:World):Calls prog 250 #[.bool true,.int .i64 x] w λe w'=>e= .returned (.tuple #[])/\w'=w:=by
 go_in;go_wp2;go_end0;exact⟨rfl,rfl⟩
section
variable{O:av}{μ:Mm}{w:World}
theorem fS{W:World}{g:Nat}{T:TypeId}{cs:Array Value}(h:Whole W g T cs):Whole W.drew g T cs:=h
theorem yk(h:ao O μ w)(a:Nat)(b:Bk)(er:Nat)(ha:a<4294967296)(hv:da a μ=some (b,er)):Calls prog 251 #[.pointer (some ⟨O.mb,0,none⟩),.int .i64 (a:Int)] w λe w'=>e= .returned (.tuple #[.agg (G0 b),.bool (decide (er=0/\b.tag=2))])/\MG O w μ w':=by
 obtain⟨w0,Fx⟩:=Fp (w.alloc (.cells #[.int .i64 0,.int .i64 0,.bool false,.int .i64 0,.int .u32 0,.int .u32 0,.int .u32 0,.int .u32 0,.int .u64 0,.int .u16 0,.int .i64 0,.int .u32 0] 165));have GK:MG O w μ w0:=by rw[Fx];exact(MG.refl h).alloc _
 have Gd:Whole w0 w.heap.size 165 #[.int .i64 0,.int .i64 0,.bool false,.int .i64 0,.int .u32 0,.int .u32 0,.int .u32 0,.int .u32 0,.int .u64 0,.int .u16 0,.int .i64 0,.int .u32 0]:=by rw[Fx];exact Whole.new w _ _
 have Gn:=Fh (gy GK.has a b er ha hv);have FE:=Fh GK;have Jd:=Fh Gd;have HH:=Fh h;obtain⟨q,hq⟩:=Fp (decide (er=0/\b.tag=2));rw[<-hq];have HQ:=Fh hq;clear h GK Gd hv hq;go_in;go_upto_region 1 with fail;rw[<-Fx];clear Fx;go_wp2_with fail;refine Gn.o.mono ?_;rintro e w1⟨rfl,hg⟩;have Gp:=hg.kept.whole Jd.o (HH.o.Fu (Fm _));have Gz:=FE.o.trans hg;obtain⟨w2,FL⟩:=Fp (w1.alloc (.cells (G0 b) 165));have FF:Below w1.heap.size w1 w2:=by rw[FL];exact(Below.refl _ _).alloc (Fm _) _
 have Gc:=(FF.block _ Gp.lt).trans Gp;change Whole w2 w.heap.size _ _ at Gc;have IU:Whole w2 w1.heap.size 165 (G0 b):=by rw[FL];exact Whole.new _ _ _
 have FK:=Fh (Gz.below FF);have KO:=Fh Gc;obtain⟨sb,Jf⟩:=Fp w1.heap.size;rw[<-Jf]at IU;have hne:sb≠w.heap.size:=by have:=Gp.lt;omega
 obtain⟨x0,x1,x2,x3,x4,x5,x6,x7,x8,x9,IQ,I2⟩:=aZ IU;obtain⟨z0,z1,z2,z3,z4,z5,z6,z7,z8,z9,XF,XG⟩:=aZ Gc;obtain⟨f0,f1,f2,f3,f4,f5,f6,f7,f8,f9,f10,f11⟩:=fI Gc;clear hg Gp Gz FF Gc IU FE Jd;unfold G0 at FL⊢;go_upto_region 2 with fail;rw[<-FL,<-Jf];clear FL Jf;by_cases he:er=0
 ·subst he;have c1:((b.tag:Int)==2)=q:=by rw[HQ.o,Bool.eq_iff_iff];simp;omega
  go_region
  all_goals
   go_wp2_with fail;refine bodyPost_ret (aB rfl _ _ w.heap.size 165 _ (0,0) _ rfl (fS (ff KO.o _ _ _ _ _ _ _ _ _ _ _ _)) underlying165 rfl (by kernel_rfl)) rfl ?_;exact⟨rfl,(FK.o.KB HH.o (Fm _) _ _ _ _ _ _ _ _ _ _ _ _).drew⟩
 ·have c0:((er:Int)==0)=false:=by rw[Fo];omega
  have c1:q=false:=by rw[HQ.o];simp[he]
  subst c1
  go_region
  all_goals
   go_wp2_with fail;refine bodyPost_ret (aB rfl _ _ w.heap.size 165 _ (0,0) _ rfl (fS (ff KO.o _ _ _ _ _ _ _ _ _ _ _ _)) underlying165 rfl (by kernel_rfl)) rfl ?_;exact⟨rfl,(FK.o.KB HH.o (Fm _) _ _ _ _ _ _ _ _ _ _ _ _).drew⟩
end
section
variable{O:av}{μ:Mm}{w:World}
theorem jE(h:ao O μ w)(a:Nat)(b:Bk)(ha:a<4294967296)(hv:eD 2 a μ=some b):Calls prog 251 #[.pointer (some ⟨O.mb,0,none⟩),.int .i64 (a:Int)] w λe w'=>e= .returned (.tuple #[.agg (G0 b),.bool true])/\MG O w μ w':=by
 obtain⟨h3,ht⟩:=cq hv;have Gw:=yk h a b 0 ha h3;rw[decide_eq_true (⟨rfl,ht⟩:0=0/\b.tag=2)]at Gw;exact Gw
theorem pf(h:ao O μ w)(a:Nat)(ha:a<4294967296)(hv:lP a μ=some ()):Calls prog 245 #[.pointer (some ⟨O.mb,0,none⟩),.int .i64 (a:Int)] w λe w'=>e= .returned (.bool true)/\MG O w μ w':=by
 obtain⟨⟨b,er⟩,h1,hv⟩:=Fi hv;dsimp only at hv;have hc:a=0\/er=0/\b.tag=2:=by
  split at hv
  ·assumption
  ·cases hv
 have Gw:=yk h a b er ha h1;unfold G0 at Gw;obtain⟨q,hq⟩:=Fp (decide (er=0/\b.tag=2));rw[<-hq]at Gw;have Gn:=Fh Gw;have FE:=Fh (MG.refl h);have KQ:((a:Int)==0)=true\/((a:Int)==0)=false/\q=true:=by
  by_cases h0:a=0
  ·exact .inl (by rw[h0];rfl)
  ·exact .inr ⟨by rw[Fo];omega,by rw[hq];exact decide_eq_true (hc.resolve_left h0)⟩
 clear h h1 hv Gw hq hc;rcases KQ with c0|⟨c0,rfl⟩
 ·go_in;go_wp2_with fail;refine Gn.o.mono ?_;rintro e w1⟨rfl,hg⟩;have FA:=Fh (FE.o.trans hg);clear hg;go_wp2;go_ret;exact⟨rfl,FA.o.alloc _⟩
 ·go_in;go_wp2_with fail;refine Gn.o.mono ?_;rintro e w1⟨rfl,hg⟩;have FA:=Fh (FE.o.trans hg);clear hg;go_wp2;go_ret;exact⟨rfl,FA.o.alloc _⟩
theorem mY{a hh:Nat}(h:iy a μ=some hh):hh<4294967296:=by
 unfold iy at h;split at h
 ·have:=Fk h;omega
 ·obtain⟨b,h1,h2⟩:=Fi h;have:=(fL (cq h1).1).hash;have:=Fk h2;omega
theorem pg(h:ao O μ w)(a hh:Nat)(ha:a<4294967296)(hv:iy a μ=some hh):Calls prog 248 #[.pointer (some ⟨O.mb,0,none⟩),.int .i64 (a:Int)] w λe w'=>e= .returned (.int .u32 (hh:Int))/\MG O w μ w':=by
 unfold iy at hv;by_cases h0:a=0
 ·rw[if_pos h0]at hv;have e1:G2 []=hh:=by rw[ID];exact Fk hv
  have Uv:=zJ none [] 0 w (by simp) (by simp) (λi v hv=>by simp[ya]at hv);rw[e1]at Uv;have X6:=Fh (show Calls prog 319 #[.slice none 0 0] w λe w'=>e= .returned (.int .u32 (hh:Int))/\Below w.heap.size w w' from Uv);have FE:=Fh (MG.refl h);have c0:((a:Int)==0)=true:=by rw[h0];rfl
  clear h hv h0 Uv e1;go_in;go_wp2_with fail;refine X6.o.mono ?_;rintro e w1⟨rfl,hb⟩;have FA:=Fh (FE.o.below hb);clear hb;go_wp2;go_ret;exact⟨rfl,FA.o⟩
 ·rw[if_neg h0]at hv;obtain⟨b,h1,h2⟩:=Fi hv;obtain rfl:=Fk h2;obtain⟨h3,ht⟩:=cq h1;have Gw:=jE h a b ha h1;have Gn:=Fh Gw;have FE:=Fh (MG.refl h);have c0:((a:Int)==0)=false:=by rw[Fo];omega
  clear h hv h0 Gw h1 h2 h3 ht;unfold G0 at Gn;go_in;go_wp2_with fail;refine Gn.o.mono ?_;rintro e w1⟨rfl,hg⟩;have FA:=Fh (FE.o.trans hg);clear hg;go_wp2;go_ret;exact⟨rfl,FA.o.alloc _⟩
theorem hJ(l:List UInt8):(ByteArray.mk l.toArray).data.toList=l:=rfl
theorem eI(l:List UInt8):(ByteArray.mk l.toArray).size=l.length:=eH l
theorem rG(l:List UInt8)(w:World)(hs:Sz w)(hl:l.length<=100000):Calls prog 96 #[.string ⟨l.toArray⟩] w λe w'=>e= .returned (.tuple #[.int .i64 ((if aG l≠0 then 0 else(bl l.length).1:Nat):Int),.int .i64 (if aG l≠0 then aG l else(bl l.length).2)])/\Below w.heap.size w w':=by
 have HL:=Fh (IC ⟨l.toArray⟩ w (by rw[eI];omega));have HN:=Fh (λW (hb:Below w.heap.size w W)=>AV l.length W (hs.below hb) (by omega));rw[hJ]at HL;obtain⟨S,hS⟩:∃S:ByteArray,S=⟨l.toArray⟩:=⟨_,rfl⟩;have F8:S.size=l.length:=by rw[hS];exact eI l
 rw[<-hS]at HL⊢;clear hs hS;by_cases h0:aG l=0
 ·rw[if_neg (λe=>e h0),if_neg (λe=>e h0)];rw[h0]at HL;go_in;go_wp2_with fail;refine HL.o.mono ?_;rintro e w1⟨rfl,FN⟩;have GH:=Fh FN;clear FN;go_wp2_with fail;refine(HN.o _ GH.o).mono ?_;rintro e w2⟨rfl,rfl⟩;go_wp2;go_ret2;exact⟨rfl,GH.o⟩
 ·rw[if_pos h0,if_pos h0];have c0:((aG l) !=0)=true:=by rw[bne_iff_ne];exact h0
  obtain⟨x,hx⟩:=Fp (aG l);rw[<-hx]at HL c0⊢;clear h0 hx;go_in;go_wp2_with fail;refine HL.o.mono ?_;rintro e w1⟨rfl,FN⟩;go_wp2;go_ret2;exact⟨rfl,FN⟩
theorem mZ(h:ao O μ w)(a:Nat)(l:List UInt8)(ha:a<4294967296)(hv:fc a μ=some l):Calls prog 254 #[.pointer (some ⟨O.mb,0,none⟩),.int .i64 (a:Int)] w λe w'=>e= .returned (.tuple #[.string ⟨l.toArray⟩,.int .i64 0])/\MG O w μ w':=by
 obtain⟨b,h1,h2⟩:=Fi hv;obtain⟨h3,ht⟩:=cq h1;have Ov:=Fh (fp h);have Gw:=λW (hg:MG O w μ W)=>jE hg.has a b ha h1;have Gn:=Fh Gw;have K8:Hid (l.length=b.label):=Fh (by rw[(fR h2).2.2.2,Mm.Hf]);have MH:=λW (hh:ao O μ W)=>mh hh (a+16) b.label 5 l h2;simp only [show((a+16:Nat):Int)=(a:Int)+16 by omega]at MH;have Sq:=Fh MH;have FE:=Fh (MG.refl h);have HH:=Fh h;clear h hv h1 h2 h3 ht Gw MH;unfold G0 at Gn;go_in;go_wp2_with fail;refine Ov.o.mono ?_;rintro e w1⟨rfl,hb⟩;have FA:=Fh (FE.o.below hb);clear hb;go_wp2_with fail;refine(Gn.o _ FA.o).mono ?_;rintro e w2⟨rfl,Gg⟩;obtain⟨w3,F7⟩:=Fp (w2.alloc (.cells (G0 b) 165));have Jq:Whole w3 w2.heap.size 165 (G0 b):=by rw[F7];exact Whole.new w2 _ _
 have FT:Hid (MG O w μ w3):=Fh (by rw[F7];exact(FA.o.trans Gg).alloc _);obtain⟨x0,x1,x2,x3,x4,x5,x6,x7,x8,x9,IQ,I2⟩:=aZ Jq;unfold G0 at F7;clear Gg Jq;go_upto_region 4 with fail;rw[<-F7];clear F7;go_wp2_with fail;refine(Sq.o _ FT.o.has).mono ?_;rintro e w4⟨u,rfl,hu,F9⟩;obtain⟨A,c,rfl,Gh⟩:=eW hu;have hcv:=uH (c:=c) K8.o (rE hu) w4 Gh;have FW:=Fh (FT.o.trans F9);clear F9 hu Gh x0 x1 x2 x3 x4 x5 x6 x7 x8 x9 IQ I2;go_wp2;go_ret2;exact⟨rfl,FW.o⟩
theorem uM(h:ao O μ w)(up r:Nat)(l:List UInt8)(hu:up<4294967296)(hl:l.length<=100000)(hv:mJ up l μ=some r):Calls prog 155 #[.pointer (some ⟨O.mb,0,none⟩),.int .i64 (up:Int),.string ⟨l.toArray⟩] w λe w'=>e= .returned (.tuple #[.int .i64 (r:Int),.bool (decide (r≠0))])/\MG O w μ w':=by
 obtain⟨_,h1,hv⟩:=Fi hv;by_cases he:aG l=0
 case neg=>rw[if_pos he]at hv;cases hv
 rw[if_neg (λe=>e he)]at hv;obtain⟨hh,h2,h3⟩:=Fi hv;have XJ:=mY h2;have G1:(FI l).length=l.length:=by simp[FI]
 have Ov:=Fh (fp h);have Nd:=Fh (λW (hg:MG O w μ W)=>pf hg.has up hu h1);have Rc:=λW=>IC ⟨l.toArray⟩ W (by rw[eI];omega);simp only [hJ,he]at Rc;have RS:=Fh Rc;have OF:=λW=>j8 ⟨l.toArray⟩ W (by rw[eI];omega);simp only [hJ]at OF;have VO:=Fh OF;have Sr:=Fh (λW (hg:MG O w μ W)=>pg hg.has up hh hu h2);have WA:=λW=>mT (hh:Int) ⟨(FI l).toArray⟩ W (by omega) (by omega) (by rw[eI,G1];omega);simp only [hJ,Int.toNat_natCast]at WA;obtain⟨z,hz⟩:=Fp (cE hh (FI l));have Qp:z<4294967296:=by rw[hz];exact jT _ _
 rw[<-hz]at h3;simp only [<-hz]at WA;have HML:=Fh WA;have Nu:=Fh (λW (hg:MG O w μ W)=>BU hg.has up z r (FI l) hu (by rw[G1];omega) Qp h3);have FE:=Fh (MG.refl h);have r1:IntKind.u32.wrap (up:Int)=(up:Int):=by rw[IntKind.wrap_u32];omega
 obtain⟨S,hS⟩:∃S:ByteArray,S=⟨l.toArray⟩:=⟨_,rfl⟩;obtain⟨S2,NF⟩:∃S:ByteArray,S=⟨(FI l).toArray⟩:=⟨_,rfl⟩;rw[<-hS]at RS VO⊢;rw[<-NF]at VO HML Nu;obtain⟨q,hq⟩:=Fp (decide (r≠0));rw[<-hq]at Nu⊢;clear h hv h1 he h2 h3 G1 Rc OF WA hz hS NF hq;go_in;go_wp2_with fail;refine Ov.o.mono ?_;rintro e w1⟨rfl,hb⟩;have FA:=Fh (FE.o.below hb);clear hb;go_wp2_with fail;refine(Nd.o _ FA.o).mono ?_;rintro e w2⟨rfl,hg⟩;have FK:=Fh (FA.o.trans hg);clear hg;go_wp2_with fail;refine(RS.o _).mono ?_;rintro e w3⟨rfl,hb⟩;have FT:=Fh (FK.o.below hb);clear hb;go_wp2_with fail;refine(VO.o _).mono ?_;rintro e w4⟨rfl,hb⟩;have FW:=Fh (FT.o.below hb);clear hb;go_wp2_with fail;refine(Sr.o _ FW.o).mono ?_;rintro e w5⟨rfl,hg⟩;have Gj:=Fh (FW.o.trans hg);clear hg;go_wp2_with fail;refine(HML.o _).mono ?_;rintro e w6⟨rfl,hb⟩;have GP:=Fh (Gj.o.below hb);clear hb;go_wp2_with fail;refine(Nu.o _ GP.o).mono ?_;rintro e w7⟨rfl,hg⟩;have Iv:=Fh (GP.o.trans hg);clear hg;go_wp2;go_ret2;exact⟨rfl,Iv.o⟩
theorem eJ{a c:Nat}(hv:fG a c μ=some ()):∃s x,je a μ=some (s,a)/\μ.FH a 4=5/\dR s μ=some x/\x.Ft=c/\μ.ld a 4 5=some 0:=by
 obtain⟨⟨s,b⟩,h1,h2⟩:=Fi hv;dsimp only at h2;by_cases hb:b≠a\/μ.FH a 4≠5
 case pos=>rw[if_pos hb]at h2;cases h2
 rw[if_neg hb]at h2;obtain⟨FN,FF⟩:b=a/\μ.FH a 4=5:=by constructor<;>(apply Classical.byContradiction;intro e;exact hb (by simp[e]))
 obtain⟨x,h3,h4⟩:=Fi h2;by_cases hx:x.Ft=c
 case neg=>rw[if_pos hx]at h4;cases h4
 rw[if_neg (λe=>e hx)]at h4;obtain⟨v,h5,h6⟩:=Fi h4;by_cases h0:v=0
 case neg=>rw[if_neg h0]at h6;cases h6
 rw[h0]at h5;rw[FN]at h1;exact⟨s,x,h1,FF,h3,hx,h5⟩
theorem zV(h:ao O μ w)(a c:Nat)(ha:a<4294967296)(hv:fG a c μ=some ()):Calls prog 260 #[.pointer (some ⟨O.mb,0,none⟩),.int .i64 (a:Int),.int .i64 (c:Int)] w λe w'=>e= .returned (.bool true)/\MG O w μ w':=by
 obtain⟨s,x,h1,FF,h2,hx,h3⟩:=eJ hv;obtain⟨b,rfl⟩:∃b,b=a:=⟨a,rfl⟩;subst hx;have II:=Fh (kh h b s b h1);have Le:=λW (hg:MG O w μ W)=>j6 hg.has b 4 (by omega) (by omega) (by omega);simp only [FF]at Le;have We:=Fh Le;have Gw:=λW (hg:MG O w μ W)=>gx hg.has s x h2;unfold LF at Gw;have Gn:=Fh Gw;have O4:=Fh (λW (hg:MG O w μ W)=>dA hg.has b 4 5 0 h3);have FE:=Fh (MG.refl h);clear h hv h1 h2 h3 Le Gw FF;go_in;go_wp2_with fail;refine II.o.mono ?_;rintro e w1⟨rfl,hg⟩;have FA:=Fh (FE.o.trans hg);clear hg;go_wp2_with fail;refine(We.o _ FA.o).mono ?_;rintro e w2⟨rfl,rfl⟩;go_wp2_with fail;refine(Gn.o _ FA.o).mono ?_;rintro e w3⟨rfl,hg⟩;have FT:=Fh (FA.o.trans hg);clear hg;obtain⟨w4,Hn⟩:=Fp (w3.alloc (.cells #[.int .i64 (x.Ft:Int),.int .i64 (x.live:Int),.int .u32 (x.free:Int),.int .i64 (x.next:Int),.int .i64 (x.prev:Int)] 176));have LK:Whole w4 w3.heap.size 176 #[.int .i64 (x.Ft:Int),.int .i64 (x.live:Int),.int .u32 (x.free:Int),.int .i64 (x.next:Int),.int .i64 (x.prev:Int)]:=by rw[Hn];exact Whole.new _ _ _
 have FW:Hid (MG O w μ w4):=Fh (by rw[Hn];exact FT.o.alloc _);obtain⟨x0,x1,x2,x3,x4⟩:=bt LK;clear LK;go_upto_region 5 with fail;rw[<-Hn];clear Hn;go_wp2_with fail;refine(O4.o _ FW.o).mono ?_;rintro e w5⟨rfl,hg⟩;have Gj:=Fh (FW.o.trans hg);clear hg;go_wp2;go_ret;exact⟨rfl,Gj.o⟩
end
section
variable{O:av}{μ:Mm}{w:World}
theorem uN{a n:Nat}(h:im a 11 μ=some n):n<4294967296:=jx (W:=4) h (by omega) (by decide)
theorem ph(h:ao O μ w)(a:Nat)(μ':Mm)(ha:a<4294967296)(hv:iz a μ=some μ'):Calls prog 252 #[.pointer (some ⟨O.mb,0,none⟩),.int .i64 (a:Int),.int .i64 1] w λe w'=>(∃n:Int,e= .returned (.int .i64 n))/\MG O w μ' w':=by
 obtain⟨n,h1,h2⟩:=Fi hv;have hn:=uN h1;have HL:=Fh (eF h a 11 n ha (by omega) h1);have hs:=λW (hg:MG O w μ W)=>cO hg.has a 11 (n+1) μ' ha (by omega) h2;simp only [show((n+1:Nat):Int)=(n:Int)+1 from rfl]at hs;have HS:=Fh hs;have FE:=Fh (MG.refl h);have r1:IntKind.u64.wrap ((n:Int)+1)=(n:Int)+1:=by rw[IntKind.wrap_u64];omega
 have r2:IntKind.i64.wrap ((n:Int)+1)=(n:Int)+1:=by rw[IntKind.wrap_i64];omega
 clear h hv h1 h2 hs;go_in;go_wp2_with fail;refine HL.o.mono ?_;rintro e w1⟨rfl,hg⟩;have FA:=Fh (FE.o.trans hg);clear hg;go_wp2_with fail;refine(HS.o _ FA.o).mono ?_;rintro e w2⟨rfl,hg⟩;have FK:=Fh (FA.o.trans hg);clear hg;go_wp2;go_ret;exact⟨⟨_,rfl⟩,FK.o⟩
theorem te(h:ao O μ w)(a k:Nat)(μ':Mm)(ha:a<4294967296)(hv:jX a μ=some (k,μ')):Calls prog 252 #[.pointer (some ⟨O.mb,0,none⟩),.int .i64 (a:Int),.int .i64 (-1)] w λe w'=>e= .returned (.int .i64 (k:Int))/\MG O w μ' w':=by
 obtain⟨n,h1,h2⟩:=Fi hv;by_cases hz:n=0
 case pos=>rw[if_pos hz]at h2;cases h2
 rw[if_neg hz]at h2;obtain⟨m1,h3,h4⟩:=Fi h2;have h5:=Fk h4;obtain⟨rfl,rfl⟩:n-1=k/\m1=μ':=⟨congrArg Prod.fst h5,congrArg Prod.snd h5⟩;have hn:=uN h1;have HL:=Fh (eF h a 11 n ha (by omega) h1);have HS:=Fh (λW (hg:MG O w μ W)=>cO hg.has a 11 (n-1) m1 ha (by omega) h3);obtain⟨k,hk⟩:=Fp (n-1);rw[<-hk]at HS⊢;have FE:=Fh (MG.refl h);have r1:IntKind.u64.wrap (k:Int)=(k:Int):=by rw[IntKind.wrap_u64];omega
 have r2:IntKind.i64.wrap ((n:Int)+ -1)=(k:Int):=by rw[IntKind.wrap_i64];omega
 clear h hv h1 h2 h3 h4 h5 hk;go_in;go_wp2_with fail;refine HL.o.mono ?_;rintro e w1⟨rfl,hg⟩;have FA:=Fh (FE.o.trans hg);clear hg;go_wp2_with fail;refine(HS.o _ FA.o).mono ?_;rintro e w2⟨rfl,hg⟩;have FK:=Fh (FA.o.trans hg);clear hg;go_wp2;go_ret;exact⟨rfl,FK.o⟩
theorem rH(h:ao O μ w)(n:Nat)(hv:μ.root 17=some n):Calls prog 323 #[.pointer (some ⟨O.mb,0,none⟩)] w λe w'=>e= .returned (.int .i64 (n:Int))/\MG O w μ w':=by
 have hn:=aU hv (by omega);have HL:=Fh (gj h 17 n (by omega) hv);have FE:=Fh (MG.refl h);clear h hv;go_in;go_wp2_with fail;refine HL.o.mono ?_;rintro e w1⟨rfl,hg⟩;have FA:=Fh (FE.o.trans hg);clear hg;go_wp2;go_ret;exact⟨rfl,FA.o⟩
theorem ED(h:ao O μ w)(μ':Mm)(hv:bK 17 μ=some μ'):Calls prog 261 #[.pointer (some ⟨O.mb,0,none⟩),.int .i64 1] w λe w'=>e= .returned (.tuple #[])/\MG O w μ' w':=by
 obtain⟨n,h1,h2⟩:=Fi hv;have hn:=aU h1 (by omega);have HL:=Fh (rH h n h1);have hs:=λW (hg:MG O w μ W)=>bf hg.has 17 (n+1) μ' (by omega) h2;simp only [show((n+1:Nat):Int)=(n:Int)+1 from rfl]at hs;have HS:=Fh hs;have FE:=Fh (MG.refl h);have r1:IntKind.u64.wrap ((n:Int)+1)=(n:Int)+1:=by rw[IntKind.wrap_u64];omega
 have r2:IntKind.i64.wrap ((n:Int)+1)=(n:Int)+1:=by rw[IntKind.wrap_i64];omega
 clear h hv h1 h2 hs;go_in;go_wp2_with fail;refine HL.o.mono ?_;rintro e w1⟨rfl,hg⟩;have FA:=Fh (FE.o.trans hg);clear hg;go_wp2_with fail;refine(HS.o _ FA.o).mono ?_;rintro e w2⟨rfl,hg⟩;have FK:=Fh (FA.o.trans hg);clear hg;go_wp2;go_end0;exact⟨rfl,FK.o⟩
theorem BZ(h:ao O μ w)(μ':Mm)(hv:dV 17 μ=some μ'):Calls prog 261 #[.pointer (some ⟨O.mb,0,none⟩),.int .i64 (-1)] w λe w'=>e= .returned (.tuple #[])/\MG O w μ' w':=by
 obtain⟨n,h1,h2⟩:=Fi hv;have hn:=aU h1 (by omega);by_cases hz:n=0
 case pos=>rw[if_pos hz]at h2;cases h2
 rw[if_neg hz]at h2;have HL:=Fh (rH h n h1);have HS:=Fh (λW (hg:MG O w μ W)=>bf hg.has 17 (n-1) μ' (by omega) h2);have FE:=Fh (MG.refl h);obtain⟨k,hk⟩:=Fp (n-1);rw[<-hk]at HS;have r1:IntKind.u64.wrap (k:Int)=(k:Int):=by rw[IntKind.wrap_u64];omega
 have r2:IntKind.i64.wrap ((n:Int)+ -1)=(k:Int):=by rw[IntKind.wrap_i64];omega
 clear h hv h1 h2 hk;go_in;go_wp2_with fail;refine HL.o.mono ?_;rintro e w1⟨rfl,hg⟩;have FA:=Fh (FE.o.trans hg);clear hg;go_wp2_with fail;refine(HS.o _ FA.o).mono ?_;rintro e w2⟨rfl,hg⟩;have FK:=Fh (FA.o.trans hg);clear hg;go_wp2;go_end0;exact⟨rfl,FK.o⟩
theorem wV{w0 wN:World}{m:Mm}(h:ao O μ w)(Fx:w0=w.alloc (.cells #[.int .i64 0] 27))(hg:MG O w0 m wN):wN.cell? ⟨w.heap.size,0,none⟩=some (.int .i64 0)/\wN.frozen? ⟨w.heap.size,0,none⟩=false/\
  (wN.setCell ⟨w.heap.size,0,none⟩ (.int .i64 0)).cell? ⟨w.heap.size,0,none⟩=some (.int .i64 0)/\MG O w m (wN.setCell ⟨w.heap.size,0,none⟩ (.int .i64 0)):=by
 have h0:Whole w0 w.heap.size 27 #[.int .i64 0]:=by rw[Fx];exact Whole.new _ _ _
 have hN:=hg.kept.whole h0 (h.Fu (Fm _));have hk:aa (λk=>k=w.heap.size) wN (wN.setCell ⟨w.heap.size,0,none⟩ (.int .i64 0)):=(aa.refl (λk=>k=w.heap.size) wN).setCell (.inl rfl) _;refine⟨hN.cell 0,hN.frozen 0,(hN.put 0 (.int .i64 0)).cell 0,MG.beside h (MG.after ?_ hg) hk λk e=>by rw[e];exact Fm _⟩;rw[Fx];exact(Below.refl _ w).alloc (Fm _) _
theorem B0(h:ao O μ w)(a:Nat)(μ':Mm)(ha:a<4294967296)(hv:jm a μ=some μ'):Calls prog 156 #[.pointer (some ⟨O.mb,0,none⟩),.int .i64 (a:Int)] w λe w'=>e= .returned (.int .i64 0)/\MG O w μ' w':=by
 obtain⟨b,h1,h2⟩:=Fi hv;obtain⟨w0,Fx⟩:=Fp (w.alloc (.cells #[.int .i64 0] 27));have QY:ao O μ w0:=by rw[Fx];exact h.alloc _
 have FE:Hid (MG O w0 μ w0):=Fh (MG.refl QY);have Ov:=Fh (fp QY);have Gw:=λW (hg:MG O w0 μ W)=>jE hg.has a b ha h1;unfold G0 at Gw;have Gn:=Fh Gw;have Pa:=Fh (λW (hg:MG O w0 μ W)=>ph hg.has a μ' ha h2);have Zm:=Fh (λwN (hg:MG O w0 μ' wN)=>wV h Fx hg);clear h hv h1 h2 QY Gw
 go_enter_defers func156,ntmps156
 go_upto_region 1 with fail;rw[<-Fx];clear Fx;go_wp2_with fail;refine Ov.o.mono ?_;rintro e w1⟨rfl,hb⟩;have FA:=Fh (FE.o.below hb);clear hb;go_wp2_with fail;refine(dJ _ _).mono ?_;rintro e w2⟨rfl,rfl⟩;go_wp2_with fail;refine(Gn.o _ FA.o).mono ?_;rintro e w3⟨rfl,hg⟩;have FT:=Fh (FA.o.trans hg);clear hg;go_wp2_with fail;refine(dJ _ _).mono ?_;rintro e w4⟨rfl,rfl⟩;go_wp2_with fail;refine(Pa.o _ (FT.o.alloc _)).mono ?_;rintro e w5⟨⟨n,rfl⟩,hg⟩;have Gj:=Fh ((FT.o.alloc _).trans hg);clear hg;obtain⟨z0,z1,z2,z3⟩:=Zm.o _ Gj.o;have SC:=Fh z3;clear z3;go_wp2_with fail;refine leaves_cons (f:=249) (args:= #[.pointer (some ⟨w.heap.size,0,none⟩)]) (by simp) (by simp[go_sem]) ?_;refine(dI _ _).mono ?_;rintro e u' w''⟨rfl,rfl,rfl⟩;simp[Leaves,settle,results,results156,go_sem,z2];exact SC.o
end
section
variable{O:av}{μ:Mm}{w:World}
theorem B4(h:ao O μ w)(a:Nat)(b:Bk)(μ':Mm)(ha:a<4294967296)(hb:b.name<4294967296)(hv:sP a μ=some μ'):Calls prog 253 #[.pointer (some ⟨O.mb,0,none⟩),.int .i64 (a:Int),.agg (G0 b)] w λe w'=>e= .returned (.int .i64 (b.name:Int))/\MG O w μ' w':=by
 obtain⟨m1,h1,F0⟩:=Fi hv;obtain⟨m2,h2,h3⟩:=Fi F0;obtain⟨w0,Fx⟩:=Fp (w.alloc (.cells (G0 b) 165));have GK:MG O w μ w0:=by rw[Fx];exact(MG.refl h).alloc _
 have Gd:Whole w0 w.heap.size 165 (G0 b):=by rw[Fx];exact Whole.new w _ _
 have HDE:=Fh (λW (hg:MG O w μ W)=>yj hg.has a m1 ha h1);have Uw:=Fh (λW (hg:MG O w m1 W)=>pc hg.has a m2 h2);have Y9:=Fh (λW (hg:MG O w m2 W)=>BZ hg.has μ' h3);have FE:=Fh GK;have HX:Hid (∀W,aa (au O) w0 W->W.cell? ⟨w.heap.size,4,none⟩=some (.int .u32 (b.name:Int))):=Fh (λW k=>k.cell (Gd.cell 4) (h.Fu (Fm _)));have YZ:Hid (MG O w0 μ w0):=Fh (MG.refl GK.has);clear h hv h1 h2 h3 F0 GK Gd;unfold G0 at Fx⊢;go_in;go_upto_region 1 with fail;rw[<-Fx];clear Fx;go_wp2_with fail;refine(HDE.o _ FE.o).mono ?_;rintro e w1⟨rfl,Gz⟩;have FA:=Fh (FE.o.trans Gz);have X7:=Fh (YZ.o.trans Gz);clear Gz;go_wp2_with fail;refine(Uw.o _ FA.o).mono ?_;rintro e w2⟨rfl,Gg⟩;have FK:=Fh (FA.o.trans Gg);have HK2:=Fh (X7.o.trans Gg);clear Gg;go_wp2_with fail;refine(Y9.o _ FK.o).mono ?_;rintro e w3⟨rfl,FZ⟩;have FT:=Fh (FK.o.trans FZ);have x4:=HX.o _ (HK2.o.trans FZ).kept;clear FZ;go_wp2;go_ret;exact⟨rfl,FT.o⟩
theorem ym(h:ao O μ w)(a:Nat)(μ':Mm)(ha:a<4294967296)(hv:qU a μ=some μ'):Calls prog 157 #[.pointer (some ⟨O.mb,0,none⟩),.int .i64 (a:Int)] w λe w'=>(∃n:Int,e= .returned (.tuple #[.int .i64 n,.int .i64 0]))/\MG O w μ' w':=by
 obtain⟨b,h1,h2⟩:=Fi hv;by_cases hz:b.refs=0
 case pos=>rw[if_pos hz]at h2;cases h2
 rw[if_neg hz]at h2;obtain⟨K,hK⟩:=Fp (μ.slots+1);rw[<-hK]at h2;have hK4:K<1000000:=by have:=h.cf;omega
 obtain⟨w0,Fx⟩:=Fp (w.alloc (.cells #[.int .i64 0] 27));have QY:ao O μ w0:=by rw[Fx];exact h.alloc _
 have FE:Hid (MG O w0 μ w0):=Fh (MG.refl QY);have Ov:=Fh (fp QY);have Gw:=λW (hg:MG O w0 μ W)=>jE hg.has a b ha h1;unfold G0 at Gw;have Gn:=Fh Gw;have Zm:=Fh (λwN (hg:MG O w0 μ' wN)=>wV h Fx hg);have c0:decide ((0:Int)<(b.refs:Int))=true:=by simp;omega
 have c1:decide (0<b.refs)=true:=by simp;omega
 have H2:=Fh h2;clear h hv h1 h2 QY Gw hK
 go_enter_defers func157,ntmps157
 go_upto_region 1 with fail;rw[<-Fx];clear Fx;go_wp2_with fail;refine Ov.o.mono ?_;rintro e w1⟨rfl,hb⟩;have FA:=Fh (FE.o.below hb);clear hb;go_wp2_with fail;refine(dJ _ _).mono ?_;rintro e w2⟨rfl,rfl⟩;go_wp2_with fail;refine(Gn.o _ FA.o).mono ?_;rintro e w3⟨rfl,hg⟩;have FT:=Fh (FA.o.trans hg);clear hg;go_wp2_with fail;refine(dJ _ _).mono ?_;rintro e w4⟨rfl,rfl⟩;go_wp2_with fail;refine(dJ _ _).mono ?_;rintro e w5⟨rfl,rfl⟩;go_wp2_with fail;clear c0 c1
 go_loopw [1,4,8,9] (λs1 s4 _ _ wr=>∃n at_:Nat,n<=K/\s1= .int .i64 (at_:Int)/\at_<4294967296/\s4= .int .i64 (n:Int)/\Hid (∃m,QI (K-n) at_ m=some μ'/\MG O w0 m wr)) (λ_ s4 _ _ _=>K-(intOf s4).toNat)
 case atStart=>exact⟨0,a,by omega,rfl,ha,rfl,Fh ⟨μ,H2.o,FT.o.alloc _⟩⟩
 case round=>
  obtain⟨n,at_,hn,rfl,GG,rfl,HI⟩:=hrel;obtain⟨m,hl,hg⟩:=HI.o;obtain⟨k,hk⟩:=Fp (K-n);rw[<-hk]at hl;cases k with
  |zero=>rw[QI]at hl;cases hl
  |succ k=>
  rw[QI]at hl;by_cases h0:at_=0
  ·rw[if_pos h0]at hl;obtain rfl:=Fk hl;have c0:((at_:Int) !=0)=false:=by rw[h0];rfl
   obtain⟨z0,z1,z2,z3⟩:=Zm.o _ hg;have SC:=Fh z3;clear z3 hl h0 hg hk HI;go_wp2_with fail;refine leaves_cons (f:=249) (args:= #[.pointer (some ⟨w.heap.size,0,none⟩)]) (by simp) (by simp[go_sem]) ?_;refine(dI _ _).mono ?_;rintro e u' w''⟨rfl,rfl,rfl⟩;simp[Leaves,settle,results,results157,go_sem,z2];exact SC.o
  ·rw[if_neg h0]at hl;have c0:((at_:Int) !=0)=true:=by rw[bne_iff_ne];omega
   obtain⟨⟨q,m1⟩,e1,Iu⟩:=Fi hl;dsimp only at Iu;have Y9:=Fh (te hg.has at_ q m1 GG e1);have HG:=Fh hg;by_cases hq:q=0
   ·rw[if_neg (λe=>e hq)]at Iu;obtain⟨b2,e2,O2⟩:=Fi Iu;obtain⟨m2,e3,Tc⟩:=Fi O2;have c1:((q:Int)==0)=true:=by rw[hq];rfl
    have Zn:=λW (hg:MG O w0 m1 W)=>jE hg.has at_ b2 GG e2;have PL:=(fL (cq e2).1).name;have hdr:=λW (hg:MG O w0 m1 W)=>B4 hg.has at_ b2 m2 GG PL e3;unfold G0 at Zn hdr;have Zg:=Fh Zn;have Zo:=Fh hdr;have XI:=Fh Tc;have HKN:Hid (K-(n+1)=k):=Fh (by omega);have hnK:n+1<=K:=by omega
    clear hl Iu O2 Tc e1 e2 e3 Zn hdr hg hq h0 hk HI;go_wp2_with fail;refine Y9.o.mono ?_;rintro e w6⟨rfl,Hm⟩;have GP:=Fh (HG.o.trans Hm);clear Hm;go_wp2_with fail;refine(Zg.o _ GP.o).mono ?_;rintro e w7⟨rfl,J1⟩;have Iv:=Fh (GP.o.trans J1);clear J1;go_wp2_with fail;refine(Zo.o _ (Iv.o.alloc _)).mono ?_;rintro e w8⟨rfl,Uo⟩;have Ow:=Fh ((Iv.o.alloc _).trans Uo);clear Uo;go_wp2;go_roundw
    case rel=>exact⟨n+1,b2.name,hnK,rfl,PL,by go_num,Fh ⟨m2,by rw[HKN.o];exact XI.o,Ow.o⟩⟩
    case measure=>simp[intOf];omega
   ·rw[if_pos hq]at Iu;obtain rfl:=Fk Iu;have c1:((q:Int)==0)=false:=by rw[Fo];omega
    clear hl Iu e1 hg hq h0 hk HI;go_wp2_with fail;refine Y9.o.mono ?_;rintro e w6⟨rfl,Hm⟩;have GP:=Fh (HG.o.trans Hm);clear Hm;obtain⟨z0,z1,z2,z3⟩:=Zm.o _ GP.o;have SC:=Fh z3;clear z3;go_wp2_with fail;refine leaves_cons (f:=249) (args:= #[.pointer (some ⟨w.heap.size,0,none⟩)]) (by simp) (by simp[go_sem]) ?_;refine(dI _ _).mono ?_;rintro e u' w''⟨rfl,rfl,rfl⟩;simp[Leaves,settle,results,results157,go_sem,z2];exact SC.o
end
section
variable{O:av}{μ:Mm}{w:World}
theorem uO{l:List UInt8}(h:aG l=0):1<=l.length/\l.length<=63:=by
 unfold aG at h;split at h
 ·cases h
 ·omega
theorem JJ{n:Nat}(h1:1<=n)(h2:n<=63):(bl n).2=0/\(bl n).1<=9:=by
 have:∀n,n<64->1<=n->(bl n).2=0/\(bl n).1<=9:=by decide
 exact this n (by omega) h1
theorem zW{w W:World}{S:ByteArray}(c:Nat)(h:∀i,i<S.size->W.cell? ⟨w.heap.size,i,none⟩=(Lib.bytesWorld w 5 S).cell? ⟨w.heap.size,i,none⟩):YY W (.slice (some ⟨w.heap.size,0,none⟩) S.size c) S.data.toList:=by
 refine⟨⟨w.heap.size,0,none⟩,c,by simp,λi x hx=> ?_⟩;have hi:i<S.size:=by
  have:=(List.getElem?_eq_some_iff.1 hx).1;simpa using this
 rw[Addr.add_lit,Nat.zero_add,h i hi,Lib.bytesWorld_cell w 5 S i hi,List.getD_eq_getElem?_getD,hx];rfl
theorem B5(h:ao O μ w)(a up:Nat)(l:List UInt8)(μ':Mm)(ha:a<4294967000)(hu:up<4294967296)(hl:l.length<=100000)(hv:mK a up l μ=some μ'):Calls prog 167 #[.pointer (some ⟨O.mb,0,none⟩),.int .i64 (a:Int),.int .i64 (up:Int),.string ⟨l.toArray⟩] w λe w'=>e= .returned (.int .i64 0)/\MG O w μ' w':=by
 unfold mK at hv;by_cases he:aG l=0
 case neg=>rw[if_pos he]at hv;cases hv
 rw[if_neg (λe=>e he)]at hv;obtain⟨_,h1,F6⟩:=Fi hv;obtain⟨_,h2,F0⟩:=Fi F6;obtain⟨r,h3,GM⟩:=Fi F0;by_cases hr:r=0
 case neg=>rw[if_pos hr]at GM;cases GM
 rw[if_neg (λe=>e hr)]at GM;subst hr;obtain⟨hh,h4,JF⟩:=Fi GM;obtain⟨m1,h5,Lk⟩:=Fi JF;obtain⟨m2,h6,NG⟩:=Fi Lk;obtain⟨m3,h7,X8⟩:=Fi NG;obtain⟨m4,h8,h9⟩:=Fi X8;obtain⟨Pr,hl63⟩:=uO he;obtain⟨ML,hn9⟩:=JJ Pr hl63;have XJ:=mY h4;have G1:(FI l).length=l.length:=by simp[FI]
 obtain⟨w0,Fx⟩:=Fp (w.alloc (.cells #[.int .i64 0] 27));have QY:ao O μ w0:=by rw[Fx];exact h.alloc _
 have FE:Hid (MG O w0 μ w0):=Fh (MG.refl QY);have Ov:=Fh (fp QY);have GI:=λW (hg:MG O w0 μ W)=>rG l W hg.has.env.Hk hl;simp only [he,ne_eq,not_true,if_false,ML]at GI;have Nd:=Fh (λW (hg:MG O w0 μ W)=>pf hg.has up hu h1);have Wa:=Fh (λW (hg:MG O w0 μ W)=>zV hg.has a (bl l.length).1 (by omega) h2);have Qt:=λW (hg:MG O w0 μ W)=>uM hg.has up 0 l hu hl h3;simp only [show decide ((0:Nat)≠0)=false from rfl]at Qt;have OF:=λW=>j8 ⟨l.toArray⟩ W (by rw[eI];omega);simp only [hJ]at OF;have Sr:=Fh (λW (hg:MG O w0 μ W)=>pg hg.has up hh hu h4);have WA:=λW=>mT (hh:Int) ⟨(FI l).toArray⟩ W (by omega) (by omega) (by rw[eI,G1];omega);simp only [hJ,Int.toNat_natCast]at WA;obtain⟨z,hz⟩:=Fp (cE hh (FI l));have Qp:z<4294967296:=by rw[hz];exact jT _ _
 rw[<-hz]at h5;simp only [<-hz]at WA;have HML:=Fh WA;obtain⟨c,hc⟩:=Fp ((bl l.length).1);rw[<-hc]at h5 hn9 Wa;simp only [<-hc]at GI;have Mn:=λW (hg:MG O w0 μ W)=>oh hg.has a {tag:=2,Ft:=c,label:=l.length,name:=up,hash:=z} m1 (by omega) ⟨(show(2:Nat)<256 by decide),(show c<256 by omega),(show(0:Nat)<256 by decide),(show l.length<256 by omega),hu,(show(0:Nat)<4294967296 by decide),(show(0:Nat)<4294967296 by decide),(show(0:Nat)<18446744073709551616 by decide),(show(0:Nat)<65536 by decide),(show(0:Nat)<65536 by decide),Qp,(show(0:Nat)<4294967296 by decide)⟩ (Nat.zero_le 1) h5;change∀W,MG O w0 μ W->Calls prog 171 #[.pointer (some ⟨O.mb,0,none⟩),.int .i64 (a:Int),.agg #[.int .i64 2,.int .i64 (c:Int),.bool false,.int .i64 (l.length:Int),.int .u32 (up:Int),.int .u32 0,.int .u32 0,.int .u32 0,.int .u64 0,.int .u16 0,.int .i64 0,.int .u32 (z:Int)]] W _ at Mn;obtain⟨S,hS⟩:∃S:ByteArray,S=⟨l.toArray⟩:=⟨_,rfl⟩;obtain⟨S2,NF⟩:∃S:ByteArray,S=⟨(FI l).toArray⟩:=⟨_,rfl⟩;have IU:S2.size=l.length:=by rw[NF,eI,G1]
 have Il:S2.data.toList=FI l:=by rw[NF]
 rw[<-IU]at Mn;rw[<-Il]at h6;rw[<-hS]at GI Qt OF⊢;rw[<-NF]at OF HML;have JE:=Fh GI;have Lf:=Fh Qt;have VO:=Fh OF;have XW:=Fh Mn;have RI:=λ(W W0:World) (hg:ao O m1 W) (u:Value) (hu:∀W2,MG O W m1 W2->YY W2 u S2.data.toList)=>mR hg (a+16) 5 S2.data.toList u m2 hu h6;simp only [show((a+16:Nat):Int)=(a:Int)+16 by omega]at RI;have X9:=Fh RI;have Pa:Hid (up≠0->∀W,MG O w0 m2 W->Calls prog 252 #[.pointer (some ⟨O.mb,0,none⟩),.int .i64 (up:Int),.int .i64 1] W λe w'=>(∃n:Int,e= .returned (.int .i64 n))/\MG O W m3 w'):=Fh (λh0 W hg=>by
  rw[if_pos h0]at h7;exact ph hg.has up m3 hu h7)
 have H7:=Fh h7;have Ya:=Fh (λW (hg:MG O w0 m3 W)=>yi hg.has a m4 (by omega) h8);have HCO:=Fh (λW (hg:MG O w0 m4 W)=>ED hg.has μ' h9);have Zm:=Fh (λwN (hg:MG O w0 μ' wN)=>wV h Fx hg);have r1:IntKind.u32.wrap (up:Int)=(up:Int):=by rw[IntKind.wrap_u32];omega
 have r2:IntKind.i64.wrap ((a:Int)+16)=(a:Int)+16:=by rw[IntKind.wrap_i64];omega
 clear h hv h1 h2 h3 h4 h5 h6 h7 h8 h9 F6 F0 GM JF Lk NG X8 QY GI Qt OF WA Mn RI hz hc hS NF IU Il he ML G1
 go_enter_defers func167,ntmps167
 go_upto_region 1 with fail;rw[<-Fx];clear Fx;go_wp2_with fail;refine Ov.o.mono ?_;rintro e w1⟨rfl,hb⟩;have FA:=Fh (FE.o.below hb);clear hb;go_wp2_with fail;refine(dJ _ _).mono ?_;rintro e w2⟨rfl,rfl⟩;go_wp2_with fail;refine(JE.o _ FA.o).mono ?_;rintro e w3⟨rfl,hb⟩;have FT:=Fh (FA.o.below hb);clear hb;go_wp2_with fail;refine(dJ _ _).mono ?_;rintro e w4⟨rfl,rfl⟩;go_wp2_with fail;refine(Nd.o _ FT.o).mono ?_;rintro e w5⟨rfl,hg⟩;have Gj:=Fh (FT.o.trans hg);clear hg;go_wp2_with fail;refine(Wa.o _ Gj.o).mono ?_;rintro e w6⟨rfl,hg⟩;have GP:=Fh (Gj.o.trans hg);clear hg;go_wp2_with fail;refine(dJ _ _).mono ?_;rintro e w7⟨rfl,rfl⟩;go_wp2_with fail;refine(Lf.o _ GP.o).mono ?_;rintro e w8⟨rfl,hg⟩;have Ow:=Fh (GP.o.trans hg);clear hg;go_wp2_with fail;refine(dJ _ _).mono ?_;rintro e w9⟨rfl,rfl⟩;go_wp2_with fail;refine(VO.o _).mono ?_;rintro e LV⟨rfl,hb⟩;have Re:=Fh (Ow.o.below hb);clear hb;go_wp2_with fail;refine(Sr.o _ Re.o).mono ?_;rintro e NU⟨rfl,hg⟩;have Zp:=Fh (Re.o.trans hg);clear hg;go_wp2_with fail;refine(HML.o _).mono ?_;rintro e T5⟨rfl,hb⟩;have HG12:=Fh (Zp.o.below hb);clear hb;go_wp2_with fail;refine(XW.o _ HG12.o).mono ?_;rintro e RM⟨rfl,hg⟩;have HG13:=Fh (HG12.o.trans hg);clear hg;obtain⟨cc,MO⟩:=Fp (grownCap RM S2.size 0 5);have hcv:=Lib.run_convert_string_bytes (P:=prog) RM 9 73 5 S2 underlying9 underlying73 underlying5;rw[<-MO]at hcv;obtain⟨Wt,WB⟩:=Fp (Lib.bytesWorld RM 5 S2);rw[<-WB]at hcv;have Ux:Below RM.heap.size RM Wt:=by rw[WB];exact mE _ _ _
 have HG14:=Fh (HG13.o.below Ux);have hwm:=X9.o Wt Wt HG14.o.has (.slice (some ⟨RM.heap.size,0,none⟩) S2.size cc) (λW2 hg=>zW cc λi hi=>by
  rw[hg.kept.cell (by rw[WB];exact Lib.bytesWorld_cell RM 5 S2 i hi) (HG13.o.has.Fu (Fm _)),Lib.bytesWorld_cell RM 5 S2 i hi])
 have HWM:=Fh hwm;clear MO WB Ux hwm;go_wp2_with fail;refine HWM.o.mono ?_;rintro e w15⟨rfl,hg15⟩;have Zq:=Fh (HG14.o.trans hg15);clear hg15;have WC:=H7.o;by_cases h0:up=0
 ·rw[if_neg (λe=>e h0)]at WC;obtain rfl:=Fk WC;have c0:((up:Int) !=0)=false:=by rw[h0];rfl
  have Uy:=Zq;clear h0 WC;go_wp2_with fail;refine(Ya.o _ Uy.o).mono ?_;rintro e w17⟨rfl,hg⟩;have Uz:=Fh (Uy.o.trans hg);clear hg;go_wp2_with fail;refine(HCO.o _ Uz.o).mono ?_;rintro e w18⟨rfl,hg⟩;have Zr:=Fh (Uz.o.trans hg);clear hg;obtain⟨z0,z1,z2,z3⟩:=Zm.o _ Zr.o;have SC:=Fh z3;clear z3;go_wp2_with fail;refine leaves_cons (f:=249) (args:= #[.pointer (some ⟨w.heap.size,0,none⟩)]) (by simp) (by simp[go_sem]) ?_;refine(dI _ _).mono ?_;rintro e u' w''⟨rfl,rfl,rfl⟩;simp[Leaves,settle,results,results167,go_sem,z2];exact SC.o
 ·have c0:((up:Int) !=0)=true:=by rw[bne_iff_ne];omega
  have HU:=Fh (Pa.o h0 _ Zq.o);clear h0 WC;go_wp2_with fail;refine HU.o.mono ?_;rintro e w16⟨⟨n,rfl⟩,hg16⟩;have Uy:=Fh (Zq.o.trans hg16);clear hg16;go_wp2_with fail;refine(Ya.o _ Uy.o).mono ?_;rintro e w17⟨rfl,hg⟩;have Uz:=Fh (Uy.o.trans hg);clear hg;go_wp2_with fail;refine(HCO.o _ Uz.o).mono ?_;rintro e w18⟨rfl,hg⟩;have Zr:=Fh (Uz.o.trans hg);clear hg;obtain⟨z0,z1,z2,z3⟩:=Zm.o _ Zr.o;have SC:=Fh z3;clear z3;go_wp2_with fail;refine leaves_cons (f:=249) (args:= #[.pointer (some ⟨w.heap.size,0,none⟩)]) (by simp) (by simp[go_sem]) ?_;refine(dI _ _).mono ?_;rintro e u' w''⟨rfl,rfl,rfl⟩;simp[Leaves,settle,results,results167,go_sem,z2];exact SC.o
end
section
variable{O:av}{μ:Mm}{w:World}
structure iZ(O:av)(w:World)(A:Option Addr)(l:List (List UInt8)):Prop where
 row:aM w A (fN l)
 no:∀a,A=some a->¬au O a.block
theorem iZ.kept{A:Option Addr}{l:List (List UInt8)}{W:World}(h:iZ O w A l)(k:aa (au O) w W):iZ O W A l:=
 ⟨λi v hv=>by
  obtain⟨b,off,e,hc⟩:=h.row i v hv;exact⟨b,off,e,k.cell hc (show¬au O b from h.no _ e)⟩,h.no⟩
theorem iZ.take{A:Option Addr}{l:List (List UInt8)}(h:iZ O w A l)(k:Nat):iZ O w A (l.take k):=
 ⟨λi v hv=>h.row i v (by
  simp only [fN,List.getElem?_map,List.getElem?_take]at hv⊢;split at hv
  ·exact hv
  ·cases hv),h.no⟩
theorem iZ.at_{A:Option Addr}{l:List (List UInt8)}(h:iZ O w A l){k:Nat}(hk:k<l.length):∃b off,A=some ⟨b,off,none⟩/\w.cell? ⟨b,off+k,none⟩=some (.string ⟨l[k].toArray⟩):=lY h.row hk
theorem rJ{hh r:Nat}{is:Nat->Option Bool}(h:eN hh is μ=some r):r<4294967296:=by
 obtain⟨o,h1,h2⟩:=Fi h;cases o with
 |none=>
  have:=Fk h2;omega
 |some i=>exact l5 h2
theorem rK{up r:Nat}{l:List UInt8}(h:mJ up l μ=some r):r<4294967296:=by
 obtain⟨_,_,h1⟩:=Fi h;split at h1
 ·cases h1
 ·obtain⟨_,_,h2⟩:=Fi h1;exact rJ h2
theorem Ll:∀ {ls:List (List UInt8)} {a n:Nat} {q:Nat×Nat},dW μ ls a n=some q->a<4294967296->q.1<4294967296/\q.2<=n+ls.length/\(q.1=0->a=0)
 | [],a,n,q,h,ha=>by
  obtain rfl:=Fk h;exact⟨ha,by simp,id⟩
 |l::r,a,n,q,h,ha=>by
  obtain⟨d,h1,h2⟩:=Fi h;split at h2
  ·obtain rfl:=Fk h2;exact⟨ha,by simp,id⟩
  ·have:=Ll h2 (rK h1);refine⟨this.1,by have:=this.2.1;simp;omega,λe=> ?_⟩;exact absurd (this.2.2 e) (by assumption)
theorem uP(h:ao O μ w)(A:Option Addr)(c:Nat)(l:List (List UInt8))(a0 n0:Nat)(hr:iZ O w A l)(hl:l.length<=100000)(hs:∀s∈l,s.length<=100000)(hv:kV l μ=some (a0,n0)):
  Calls prog 88 #[.pointer (some ⟨O.mb,0,none⟩),.slice A l.length c] w λe w'=>e= .returned (.tuple #[.int .i64 (a0:Int),.int .i64 (n0:Int)])/\MG O w μ w':=by
 unfold kV at hv;obtain⟨len,hlen⟩:=Fp l.length;have FE:=Fh (MG.refl h);have Yb:=Fh hr;have HS:=Fh hs;have HV:Hid (dW μ (l.reverse.drop 0) 0 0=some (a0,n0)):=Fh (by rw[List.drop_zero];exact hv);have K8:=Fh hlen;rw[<-hlen]at hl⊢;clear h hr hs hv hlen;go_in;go_wp2_with fail;refine gJ 0 (λa' wr=>∃(n at_:Nat),n<=len/\at_<4294967296/\Hid (dW μ (l.reverse.drop n) at_ n=some (a0,n0))/\Hid (MG O w μ wr)/\∃(u:Nat->Value),a'= {tmps:= #[.pointer (some ⟨O.mb,0,none⟩),.slice A len c,u 2,u 3,.int .i64 0,.int .i64 0,.int .i64 (at_:Int),.int .i64 (n:Int),u 8,u 9,u 10,u 11,u 12,u 13,u 14,u 15,u 16,u 17,u 18,u 19,u 20,u 21,u 22,u 23,u 24,u 25,u 26,u 27,u 28,u 29,u 30,u 31,u 32,u 33,u 34,u 35,u 36],defers:= []}) (λ(a':Act) _=>match a'.tmps.getD 7 undef with| .int _ m=>len+1-m.toNat|_=>0) rfl ?_ ?_
 rotate_left
 ·intro PF;go_wp2_with fail;go_step3
  rename_i hK
  refine hK _ _ (PF _ _ ⟨0,0,by omega,by omega,HV,FE,?_⟩);exact dY rfl
 ·rintro a' wr ⟨n,at_,hn,GG,HK,HG,u,rfl⟩;by_cases he:n=len
  ·have hk:=HK.o;rw[List.drop_eq_nil_of_le (by simp;have:=K8.o;omega),dW]at hk;have hk:=Fk hk;obtain⟨rfl,rfl⟩:at_=a0/\n=n0:=⟨congrArg Prod.fst hk,congrArg Prod.snd hk⟩;have c0:((n:Int)==(len:Int))=true:=by rw[he];simp
   clear hk he;go_wp2_with fail;refine fQ ?_;go_ret2;exact⟨rfl,HG.o⟩
  ·have c0:((n:Int)==(len:Int))=false:=by rw[Fo];omega
   obtain⟨j,hj⟩:=Fp (len-1-n);have K0:j<l.length:=by have:=K8.o;omega
   obtain⟨b,off,rfl,hcell⟩:=(Yb.o.kept HG.o.kept).at_ K0;have hd:l.reverse.drop n=l[j]::l.reverse.drop (n+1):=by
    have RT:n<l.reverse.length:=by simp;have:=K8.o;omega
    rw[List.drop_eq_getElem_cons RT,List.getElem_reverse];congr 1;congr 1;have:=K8.o;omega
   have hk:=HK.o;rw[hd,dW]at hk;obtain⟨d,h1,h2⟩:=Fi hk;have Lf:=Fh (uM HG.o.has at_ d l[j] GG (HS.o _ (List.getElem_mem K0)) h1);have hd4:=rK h1;obtain⟨S,hS⟩:∃S:ByteArray,S=⟨l[j].toArray⟩:=⟨_,rfl⟩;rw[<-hS]at hcell Lf;have w1:IntKind.i64.wrap ((len:Int)-1)=(len:Int)-1:=by rw[IntKind.wrap_i64];omega
   have w2:IntKind.i64.wrap ((len:Int)-1-(n:Int))=(j:Int):=by rw[IntKind.wrap_i64];omega
   have Ul:j<len:=by omega
   by_cases Qs:d=0
   ·rw[if_pos Qs]at h2;have Jc:=Fk h2;obtain⟨rfl,rfl⟩:at_=a0/\n=n0:=⟨congrArg Prod.fst Jc,congrArg Prod.snd Jc⟩;have hf:=Lf.o;rw[show decide (d≠0)=false by simp[Qs]]at hf;have HF:=Fh hf;clear hk Jc h1 h2 hd Qs hS Lf hf hj;go_wp2_with fail;refine HF.o.mono ?_;rintro e w3⟨rfl,FZ⟩;have FT:=Fh (HG.o.trans FZ);clear FZ;go_wp2_with fail;refine fQ ?_;go_ret2;exact⟨rfl,FT.o⟩
   ·rw[if_neg Qs]at h2;have hf:=Lf.o;rw[show decide (d≠0)=true by simp[Qs]]at hf;have HF:=Fh hf;have H2:=Fh h2;have hnl1:n+1<=len:=by omega
    clear hk h1 h2 hd Qs hS Lf hf hj;go_wp2_with fail;refine HF.o.mono ?_;rintro e w3⟨rfl,FZ⟩;have FT:=Fh (HG.o.trans FZ);clear FZ;go_wp2_with fail;go_step3;refine⟨rfl,⟨n+1,d,hnl1,hd4,H2,FT,?_⟩,?_⟩
    ·exact dY rfl
    ·show len+1-_<len+1-_;simp;omega
theorem yo(h:ao O μ w)(a:Nat)(μ':Mm)(ha:a<4294967296)(hv:jm a μ=some μ'):Calls prog 90 #[.agg #[.pointer (some ⟨O.mb,0,none⟩),.int .i64 (a:Int)]] w λe w'=>e= .returned (.tuple #[])/\MG O w μ' w':=by
 obtain⟨w0,Fx⟩:=Fp (w.alloc (.cells #[.pointer (some ⟨O.mb,0,none⟩),.int .i64 (a:Int)] 150));have Gd:Whole w0 w.heap.size 150 #[.pointer (some ⟨O.mb,0,none⟩),.int .i64 (a:Int)]:=by rw[Fx];exact Whole.new w _ _
 have FE:Hid (MG O w μ w0):=Fh (by rw[Fx];exact(MG.refl h).alloc _);have HH:=Fh (B0 FE.o.has a μ' ha hv);have x0:w0.cell? ⟨w.heap.size,0,none⟩=some (.pointer (some ⟨O.mb,0,none⟩)):=Gd.cell 0;have x1:w0.cell? ⟨w.heap.size,1,none⟩=some (.int .i64 (a:Int)):=Gd.cell 1;clear h Gd hv;go_in;go_upto_region 1 with fail;rw[<-Fx];clear Fx;go_wp2_with fail;refine HH.o.mono ?_;rintro e w1⟨rfl,hg⟩;have FA:=Fh (FE.o.trans hg);clear hg;go_wp2;go_end0;exact⟨rfl,FA.o⟩
theorem DE(h:ao O μ w)(a:Nat)(μ':Mm)(ha:a<4294967296)(hv:qU a μ=some μ'):Calls prog 168 #[.agg #[.pointer (some ⟨O.mb,0,none⟩),.int .i64 (a:Int)]] w λe w'=>e= .returned (.tuple #[])/\MG O w μ' w':=by
 obtain⟨w0,Fx⟩:=Fp (w.alloc (.cells #[.pointer (some ⟨O.mb,0,none⟩),.int .i64 (a:Int)] 150));have Gd:Whole w0 w.heap.size 150 #[.pointer (some ⟨O.mb,0,none⟩),.int .i64 (a:Int)]:=by rw[Fx];exact Whole.new w _ _
 have FE:Hid (MG O w μ w0):=Fh (by rw[Fx];exact(MG.refl h).alloc _);have HH:=Fh (ym FE.o.has a μ' ha hv);have x0:w0.cell? ⟨w.heap.size,0,none⟩=some (.pointer (some ⟨O.mb,0,none⟩)):=Gd.cell 0;have x1:w0.cell? ⟨w.heap.size,1,none⟩=some (.int .i64 (a:Int)):=Gd.cell 1;clear h Gd hv;go_in;go_upto_region 1 with fail;rw[<-Fx];clear Fx;go_wp2_with fail;refine HH.o.mono ?_;rintro e w1⟨⟨n,rfl⟩,hg⟩;have FA:=Fh (FE.o.trans hg);clear hg;go_wp2;go_end0;exact⟨rfl,FA.o⟩
theorem pi(h:ao O μ w)(a:Nat)(k:FuncId)(μ':Mm)(he:∀(args:Array Value) (W:World),(callFunc k args).run prog W= .ok (.enter k args) W)
  (hf:a≠0->∀W,MG O w μ W->Calls prog k #[.agg #[.pointer (some ⟨O.mb,0,none⟩),.int .i64 (a:Int)]] W λe w'=>e= .returned (.tuple #[])/\MG O W μ' w') (h0:a=0->μ=μ'):
  Calls prog 89 #[.agg #[.pointer (some ⟨O.mb,0,none⟩),.int .i64 (a:Int)],.func (.func k) #[] #[]] w λe w'=>e= .returned (.tuple #[])/\MG O w μ' w':=by
 obtain⟨w0,Fx⟩:=Fp (w.alloc (.cells #[.pointer (some ⟨O.mb,0,none⟩),.int .i64 (a:Int)] 150));have Gd:Whole w0 w.heap.size 150 #[.pointer (some ⟨O.mb,0,none⟩),.int .i64 (a:Int)]:=by rw[Fx];exact Whole.new w _ _
 have FE:Hid (MG O w μ w0):=Fh (by rw[Fx];exact(MG.refl h).alloc _);have x0:w0.cell? ⟨w.heap.size,0,none⟩=some (.pointer (some ⟨O.mb,0,none⟩)):=Gd.cell 0;have x1:w0.cell? ⟨w.heap.size,1,none⟩=some (.int .i64 (a:Int)):=Gd.cell 1;have HE:=he;clear h Gd he;by_cases ha:a=0
 ·have e0:=h0 ha;subst e0;have c0:((a:Int) !=0)=false:=by rw[ha];rfl
  clear ha hf h0;go_in;go_upto_region 1 with fail;rw[<-Fx];clear Fx;go_wp2;go_end0;exact⟨rfl,FE.o⟩
 ·have c0:((a:Int) !=0)=true:=by rw[bne_iff_ne];omega
  have HF:=Fh (hf ha w0 FE.o);clear ha hf h0;go_in;go_upto_region 1 with fail;rw[<-Fx];clear Fx;go_wp2_with fail;refine HF.o.mono ?_;rintro e w1⟨rfl,hg⟩;have FA:=Fh (FE.o.trans hg);clear hg;go_wp2;go_end0;exact⟨rfl,FA.o⟩
theorem B6(h:ao O μ w)(A:Option Addr)(c:Nat)(l:List (List UInt8))(a0 n0:Nat)(hr:iZ O w A l)(hl:l.length<=100000)(hs:∀s∈l,s.length<=100000)(hv:kV l μ=some (a0,n0)):
  Calls prog 92 #[.pointer (some ⟨O.mb,0,none⟩),.slice A l.length c] w λe w'=>e= .returned (.tuple #[.int .i64 ((if n0<l.length then 0 else a0:Nat):Int),.bool (decide (¬n0<l.length))])/\MG O w μ w':=by
 have HK:=Fh (uP h A c l a0 n0 hr hl hs hv);have FE:=Fh (MG.refl h);obtain⟨len,hlen⟩:=Fp l.length;rw[<-hlen]at HK⊢;clear h hr hs hv hl hlen;by_cases hn:n0<len
 ·have c0:decide ((n0:Int)<(len:Int))=true:=by simp;omega
  have c1:decide (n0<len)=true:=by simp;omega
  rw[if_pos hn,decide_eq_false (λe=>e hn)];clear hn;go_in;go_wp2_with fail;refine HK.o.mono ?_;rintro e w1⟨rfl,hg⟩;have FA:=Fh (FE.o.trans hg);clear hg;go_wp2;go_ret2;exact⟨rfl,FA.o⟩
 ·have c0:decide ((n0:Int)<(len:Int))=false:=by simp;omega
  have c1:decide (n0<len)=false:=by simp;omega
  rw[if_neg hn,decide_eq_true hn];clear hn;go_in;go_wp2_with fail;refine HK.o.mono ?_;rintro e w1⟨rfl,hg⟩;have FA:=Fh (FE.o.trans hg);clear hg;go_wp2;go_ret2;exact⟨rfl,FA.o⟩
theorem DF(h:ao O μ w)(A:Option Addr)(c:Nat)(l:List (List UInt8))(q:Nat×Nat)(μ':Mm)(hr:iZ O w A l)(hl:l.length<=100000)(hw:FQ l<1099511627776)(hs:∀s∈l,s.length<=100000)(hv:tS l μ=some (q,μ')):
  Calls prog 41 #[.pointer (some ⟨O.mb,0,none⟩),.slice A l.length c] w λe w'=>e= .returned (.tuple #[.int .i64 (q.1:Int),.int .i64 (q.2:Int),.int .i64 0])/\MG O w μ' w':=by
 unfold tS at hv;by_cases hc:aI l=0
 case neg=>rw[if_pos hc]at hv;cases hv
 rw[if_neg (λe=>e hc)]at hv;obtain⟨⟨a0,n0⟩,h1,F0⟩:=Fi hv;obtain⟨m1,h2,GM⟩:=Fi F0;have h4:=Fk GM;obtain⟨rfl,rfl⟩:(a0,n0)=q/\m1=μ':=⟨congrArg Prod.fst h4,congrArg Prod.snd h4⟩;dsimp only at h2⊢;have MD:=(Ll h1 (by omega)).1;have HC:=Fh (aD h);have G5:=h.cf;have z:¬((μ.Fq:Int)=0):=by omega
 have z2:¬(μ.Fq=0):=by omega
 have JA:=λW (hg:MG O w μ W)=>mW l A c W (hr.kept hg.kept).row hw (λs hx=>by have:=hs s hx;omega);rw[hc]at JA;have Wu:=Fh JA;have HKN:=Fh (λW (hg:MG O w μ W)=>uP hg.has A c l a0 n0 (hr.kept hg.kept) hl hs h1);have HUN:=Fh (λW (hg:MG O w μ W)=>pi hg.has a0 90 m1 (enters_of func90 (by kernel_rfl) rfl) (λha W2 Gg=>by
  rw[if_pos ha]at h2;exact yo Gg.has a0 m1 MD h2) (λha=>by
  rw[if_neg (λe=>e ha)]at h2;exact Fk h2))
 have FE:=Fh (MG.refl h);obtain⟨len,hlen⟩:=Fp l.length;rw[<-hlen]at Wu HKN⊢;clear h hr hs hv hl hlen F0 GM h1 h2 h4 JA G5 hw hc;go_in;go_wp2_with fail;refine HC.o.mono ?_;rintro e w1⟨rfl,hb⟩;have FA:=Fh (FE.o.below hb);clear hb;go_wp2_with fail;refine(Wu.o _ FA.o).mono ?_;rintro e w2⟨rfl,hb⟩;have FK:=Fh (FA.o.below hb);clear hb;go_wp2_with fail;refine(HKN.o _ FK.o).mono ?_;rintro e w3⟨rfl,hg⟩;have FT:=Fh (FK.o.trans hg);clear hg;go_wp2_with fail;refine(HUN.o _ FT.o).mono ?_;rintro e w4⟨rfl,hg⟩;have FW:=Fh (FT.o.trans hg);clear hg;go_wp2;go_ret3;exact⟨rfl,FW.o⟩
theorem B7(h:ao O μ w)(up a:Nat)(l:List UInt8)(μ':Mm)(ha:a<4294967000)(hu:up<4294967296)(hl:l.length<=100000)(hv:oH up a l μ=some μ'):Calls prog 98 #[.pointer (some ⟨O.mb,0,none⟩),.int .i64 (up:Int),.int .i64 (a:Int),.string ⟨l.toArray⟩] w λe w'=>e= .returned (.int .i64 0)/\MG O w μ' w':=by
 obtain⟨m1,h1,F0⟩:=Fi hv;obtain⟨m2,h2,h3⟩:=Fi F0;by_cases G6:a=0
 case pos=>rw[if_neg (λe=>e G6)]at h2;cases h2
 rw[if_pos G6]at h2;have Td:=Fh (B5 h a up l m1 ha hu hl h1);have HHO:=Fh (λW (hg:MG O w m1 W)=>yo hg.has a m2 (by omega) h2);have HUN:=Fh (λW (hg:MG O w m2 W)=>pi hg.has up 168 μ' (enters_of func168 (by kernel_rfl) rfl) (λha W2 Gg=>by
  rw[if_pos ha]at h3;exact DE Gg.has up μ' hu h3) (λha=>by
  rw[if_neg (λe=>e ha)]at h3;exact Fk h3))
 have FE:=Fh (MG.refl h);obtain⟨S,hS⟩:∃S:ByteArray,S=⟨l.toArray⟩:=⟨_,rfl⟩;rw[<-hS]at Td⊢;clear h hv F0 h1 h2 h3 G6 hS;go_in;go_wp2_with fail;refine Td.o.mono ?_;rintro e w1⟨rfl,hg⟩;have FA:=Fh (FE.o.trans hg);clear hg;go_wp2_with fail;refine(HHO.o _ FA.o).mono ?_;rintro e w2⟨rfl,hg⟩;have FK:=Fh (FA.o.trans hg);clear hg;go_wp2_with fail;refine(HUN.o _ FK.o).mono ?_;rintro e w3⟨rfl,hg⟩;have FT:=Fh (FK.o.trans hg);clear hg;go_wp2;go_ret;exact⟨rfl,FT.o⟩
theorem uQ(h:ao O μ w)(a:Nat)(μ':Mm)(ha:a<4294967296)(hv:fH a μ=some μ'):Calls prog 91 #[.pointer (some ⟨O.mb,0,none⟩),.int .i64 (a:Int)] w λe w'=>(∃n:Int,e= .returned (.tuple #[.int .i64 n,.int .i64 0]))/\MG O w μ' w':=by
 unfold fH at hv;have FE:=Fh (MG.refl h);by_cases h0:a=0
 ·rw[if_pos h0]at hv;obtain rfl:=Fk hv;have c0:((a:Int)==0)=true:=by rw[h0];rfl
  clear h hv h0;go_in;go_wp2;go_ret2;exact⟨⟨_,rfl⟩,FE.o⟩
 ·rw[if_neg h0]at hv;have c0:((a:Int)==0)=false:=by rw[Fo];omega
  have HL:=Fh (ym h a μ' ha hv);clear h hv h0;go_in;go_wp2_with fail;refine HL.o.mono ?_;rintro e w1⟨⟨n,rfl⟩,hg⟩;have FA:=Fh (FE.o.trans hg);clear hg;go_wp2;go_ret2;exact⟨⟨_,rfl⟩,FA.o⟩
end
end Go.Proofs.YtifkphcaelafjaaGreatDoor
