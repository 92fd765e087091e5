/-
  Short names. No condition.
-/
import Derived.Lib.Hide
namespace Go
open RowKit
theorem Fh {p:Prop}(h:p):Hid p:=Lib.hid h
theorem Fi {α β:Type} {x:Option α} {f:α->Option β} {b:β}(h:x.bind f=some b):∃a,x=some a/\f a=some b:=Option.bind_eq_some_iff.1 h
theorem Fj {α β:Type}(a:α)(f:α->Option β):(some a).bind f=f a:=rfl
theorem Fk {α:Type} {a b:α}(h:some a=some b):a=b:=Option.some.inj h
theorem Fl {α:Type} {l:List α} {i:Nat}(h:i<l.length):l[i]? =some l[i]:=List.getElem?_eq_getElem h
theorem Fm(n:Nat):n<=n:=Nat.le_refl n
theorem Fo {α:Type}[BEq α][LawfulBEq α] {a b:α}:(a==b)=false↔a≠b:=beq_eq_false_iff_ne
theorem RowKit.Hid.o{p:Prop}(h:RowKit.Hid p):p:=h.out
theorem Fp {α:Type}(a:α):∃b:α,b=a:=⟨a,rfl⟩
end Go
