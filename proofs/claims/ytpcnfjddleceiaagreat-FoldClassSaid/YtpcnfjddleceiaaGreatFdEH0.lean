/- Lists of numbers; kinds of cells. -/
import Derived.Test.YtpcnfjddleceiaaGreatAe23
import Derived.Test.YtpcnfjddleceiaaGreatProg
namespace Go.Ae

abbrev I (n : Int) : AV := .sc (.int .i64 n)
abbrev B (b : Bool) : AV := .sc (.bool b)
abbrev S (s : ByteArray) : AV := .sc (.string s)
abbrev undefA : AV := .sc undef

/-- A number of Go's. -/
def ir (n : Int) : Prop := -9223372036854775808 ≤ n ∧ n ≤ 9223372036854775807

def ints : List Int → List (List AV)
  | [] => []
  | n :: l => [I n] :: ints l
@[simp] theorem ints_length : ∀ l : List Int, (ints l).length = l.length
  | [] => rfl
  | _ :: l => by simp [ints, ints_length l]
theorem ints_get : ∀ (l : List Int) (i : Nat), (ints l)[i]? = (l[i]?).map fun n => [I n]
  | [], i => by simp [ints]
  | t :: l, 0 => by simp [ints]
  | t :: l, i + 1 => by simp [ints, ints_get l i]

theorem drop_get {α : Type} {l : List α} {i : Nat} {x : α} {r : List α} (h : l.drop i = x :: r) : l[i]? = some x := by
  rw [← List.head?_drop, h]; rfl
theorem drop_next {α : Type} {l : List α} {i : Nat} {x : α} {r : List α} (h : l.drop i = x :: r) : l.drop (i + 1) = r := by
  rw [← List.tail_drop, h]; rfl
theorem drop_lt {α : Type} {l : List α} {i : Nat} {x : α} {r : List α} (h : l.drop i = x :: r) : i < l.length := by
  have := congrArg List.length h; simp at this; omega
theorem drop_end {α : Type} {l : List α} {i : Nat} (h : l.drop i = []) : l.length ≤ i := by
  have := congrArg List.length h; simp at this; omega

def KT : Kinds := [(22, [some 1])]

end Go.Ae
