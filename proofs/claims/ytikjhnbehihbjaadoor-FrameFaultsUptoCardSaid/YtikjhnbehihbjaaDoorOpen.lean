/- Rows of bytes opened; rows compared that are the same. -/
import Derived.Test.YtikjhnbehihbjaaDoorAppend
namespace Go.Proofs.YtikjhnbehihbjaaDoor
open Go.RowKit

theorem equal_same (p1 p2 : Option Addr) (n c m d : Nat) (bs : List (BitVec 8)) (w : World) (h1 : Row8 w p1 bs) (h2 : Row8 w p2 bs) (hn : bs.length = n) (hm : bs.length = m) :
    Calls Tryd.prog 11 #[.slice p1 n c, .slice p2 m d] w fun e w' => e = .returned (.bool true) ∧ w' = w :=
  (equal_any p1 p2 n c m d bs bs w h1 h2 hn hm).mono fun e w' ⟨h, h2⟩ => ⟨by rw [h, decide_eq_true rfl], h2⟩
/-- an own row, opened, its length behind a variable -/
theorem Own8.open {w : World} {B : Nat} {v : Value} {bs : List (BitVec 8)} (h : Own8 w B v bs) : ∃ p n c, v = .slice p n c ∧ Hid (bs.length = n) ∧ n ≤ c ∧ c ≤ 9223372036854775807 ∧ Row8 w p bs := by
  obtain ⟨p, c, h1, h2, h3, h4⟩ := h.row
  exact ⟨p, bs.length, c, h1, Lib.hid rfl, h2, by unfold maxLen at h3; omega, h4⟩

end Go.Proofs.YtikjhnbehihbjaaDoor
