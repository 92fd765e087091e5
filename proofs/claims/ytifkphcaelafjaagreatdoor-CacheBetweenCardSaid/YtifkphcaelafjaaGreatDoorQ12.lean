/-
  Lemmas on the way to the row. No condition beyond their own.
-/
import Derived.Test.YtifkphcaelafjaaGreatDoorQ01
set_option maxHeartbeats 25600000
set_option maxRecDepth 100000
set_option linter.unusedVariables false
set_option linter.unusedSimpArgs false
namespace Go.FC
open Go.FP Go.Fy Go.Fz
def yA(m:Mm):Option (List Nat):=(gU m).bind λl=>if 100000<l.length then none else some l
def jI(m:Mm):Option (Option (Ky×Bool)×Mm):=
 (yA m).bind λall=>(qX m all).bind λl=>if l.length=0 then some (none,m)else(J4 all (Ge l) m).bind λm1=>(kZ 13 (cB l) m1).bind λm2=>
  (tU (all.getD (cB l) 0) m2).bind λq=>some (some (q.1,(l.getD (cB l) (0,false)).2),q.2)
def cM(c:Nat):Nat->Gt->Mm->Option ((Gt×Nat)×Mm)
 |0,_,_=>none
 |k+1,g,m=>(dd c m).bind λq=>if q.1.2≠5 then some (({g with at_:=q.1.1},q.1.2),q.2)else(jI q.2).bind λr=>match r.1 with
  |some w=>cM c k (if w.2=true then {g with over:=g.over+1}else {g with gone:=g.gone++ [w.1]}) r.2
  |none=>(gV r.2).bind λt=>match t.1 with
   |some l=>cM c k {g with F2:=g.F2++l} t.2
   |none=>some ((g,5),t.2)
def mn(c:Nat)(m:Mm):Option ((Gt×Nat)×Mm):=cM c (m.slots+m.Fq+2) {} m
def pJ(c:Nat)(p:Pw)(m:Mm):Option ((Nat×Nat×Pw)×Mm):=(mn c m).bind λr=>some ((r.1.1.at_,r.1.2,⟨bj r.1.1.F2 p.GB,p.gone++r.1.1.gone⟩),r.2)
def JL:List (List UInt8)->Pw->Mm->Option ((Nat×Pw)×Mm)
 | [],p,m=>some ((0,p),m)
 |l::r,p,m=>if aG l≠0 then none else(pJ (bl l.length).1 p m).bind λh=>if h.1.2.1≠0 then some ((h.1.2.1,h.1.2.2),h.2)
  else(oH h.1.2.2.GB h.1.1 l h.2).bind λm1=>JL r {h.1.2.2 with GB:=h.1.1} m1
def CB(typ en:Nat)(p:List UInt8)(w:Pw)(m:Mm):Option ((Nat×Pw)×Mm):=
 if(bD p.length).2≠0 then none else(pJ (bD p.length).1 w m).bind λh=>if h.1.2.1≠0 then some ((h.1.2.1,h.1.2.2),h.2)
  else(kX h.1.1 h.1.2.2.GB typ en p h.2).bind λm1=>some ((0, {h.1.2.2 with GB:=0}),m1)
def jJ(name:List UInt8)(typ:Nat)(l:List (List UInt8))(Gv:Nat)(m:Mm):Option ((List Ky×Int)×Mm):=
 if(aC name).2≠0 then some (([],(aC name).2),m)else if(bS l).2≠0 then some (([],(bS l).2),m)
 else(tS (aC name).1 m).bind λq=>(mN (aC name).1 typ q.2).bind λUP=>(if UP≠0 then qY UP q.2 else some q.2).bind λm1=>
  (JL ((aC name).1.take ((aC name).1.length-q.1.2)).reverse ⟨q.1.1,[]⟩ m1).bind λg=>
   (if g.1.1≠0 then some g else(g.2.root 16).bind λnow=>CB typ (oJ now Gv) (bU l) g.1.2 g.2).bind λy=>(fH y.1.2.GB y.2).bind λm2=>some ((y.1.2.gone,(y.1.1:Int)),m2)
def vC{α:Type}(x:Option (α×Mm))(d:Mm):Mm:=match x with|some q=>q.2|none=>d
def Xe{α:Type} [DecidableEq α](x:Option (α×Mm))(a:α):Bool:=match x with|some q=>decide (q.1=a)|none=>false
theorem lA{α:Type} [DecidableEq α]{x:Option (α×Mm)}{a:α}(d:Mm)(h:Xe x a=true):x=some (a,vC x d):=by
 cases x with
 |none=>cases h
 |some q=>
  obtain⟨b,m⟩:=q;simp only [Xe,decide_eq_true_eq]at h;subst h;rfl
def N8:Mm:=(bP (fB 7 224)).getD (fB 7 224)
def x1:Option ((List Ky×Int)×Mm):=jJ [65,46,98] 1 [[120]] 5 N8
def y1:Mm:=vC x1 N8
def x2:Option ((List (List UInt8)×Int)×Mm):=eS false [97,46,66,46] 1 y1
def y2:Mm:=vC x2 N8
def x3:Option (List Ky×Mm):=gI 4 y2
def y3:Mm:=vC x3 N8
def x4:Option ((List (List UInt8)×Int)×Mm):=eS false [65,46,98] 1 y3
def y4:Mm:=vC x4 N8
def x5:Option (List Ky×Mm):=gI 1 y4
def y5:Mm:=vC x5 N8
def x6:Option ((List (List UInt8)×Int)×Mm):=eS false [65,46,98] 1 y5
def y6:Mm:=vC x6 N8
def x7:Option (Int×Mm):=jo [65,46,98] 1 y6
def y7:Mm:=vC x7 N8
def okx:Bool:=(bP (fB 7 224)).isSome&&(Xe x1 ([],0)&&(Xe x2 ([[120]],0)&&(Xe x3 []&&(Xe x4 ([[120]],0)&&(Xe x5 [([[97],[98]],1)]&&(Xe x6 ([],7)&&Xe x7 7))))))
set_option maxRecDepth 1000000 in
theorem UX:okx=true:=by decide+kernel
theorem lB{a b:Bool}(h:(a&&b)=true):a=true/\b=true:=by simpa using h
theorem CK{x:Option Mm}(d:Mm)(h:x.isSome=true):x=some (x.getD d):=by
 cases x with
 |none=>cases h
 |some q=>rfl
theorem Xf:bP (fB 7 224)=some N8/\jJ [65,46,98] 1 [[120]] 5 N8=some (([],0),y1)/\eS false [97,46,66,46] 1 y1=some (([[120]],0),y2)/\gI 4 y2=some ([],y3)/\eS false [65,46,98] 1 y3=some (([[120]],0),y4)/\
  gI 1 y4=some ([([[97],[98]],1)],y5)/\eS false [65,46,98] 1 y5=some (([],7),y6)/\jo [65,46,98] 1 y6=some (7,y7):=by
 have h:=UX;unfold okx at h;obtain⟨h0,h⟩:=lB h;obtain⟨h1,h⟩:=lB h;obtain⟨h2,h⟩:=lB h;obtain⟨h3,h⟩:=lB h;obtain⟨h4,h⟩:=lB h;obtain⟨h5,h⟩:=lB h;obtain⟨h6,h7⟩:=lB h;have k0:=CK (fB 7 224) h0;have k1:=lA N8 h1;have k2:=lA N8 h2;have k3:=lA N8 h3;have k4:=lA N8 h4;have k5:=lA N8 h5;have k6:=lA N8 h6;have k7:=lA N8 h7;rw[<-N8]at k0;rw[<-y1]at k1;rw[<-y2]at k2;rw[<-y3]at k3;rw[<-y4]at k4;rw[<-y5]at k5;rw[<-y6]at k6;rw[<-y7]at k7;rw[x1]at k1;rw[x2]at k2;rw[x3]at k3;rw[x4]at k4;rw[x5]at k5;rw[x6]at k6;rw[x7]at k7;exact⟨k0,k1,k2,k3,k4,k5,k6,k7⟩
end Go.FC
