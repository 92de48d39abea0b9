/- message.reader: hashes, and the closure in it: the walks.  -/
import Derived.Test.YtjbijcjcejfpcaaGreatDoorNMsgR
import Derived.Test.YtjbijcjcejfpcaaGreatDoorNGB
namespace Go.Proofs.YtjbijcjcejfpcaaGreatDoor
open Go Go.RowKit
set_option linter.unusedVariables false
def AheadB (w : World) (pa : Option Addr) (a : Bs) : Prop := Row8 w pa a ∧ (a ≠ [] → ∀ x, pa = some x → ∃ cs, Blk w x.block 5 cs)
theorem AheadB.stays {w w' : World} {pa : Option Addr} {a : Bs} {S : Nat → Prop} (h : AheadB w pa a) (hs : Stays S w w') (hS : ∀ k, S k → ∃ T cs, Blk w k T cs ∧ T ≠ 5) : AheadB w' pa a := by
  have hn : a ≠ [] → ∀ x, pa = some x → ¬ S x.block := fun h0 x hx hk => by
    obtain ⟨cs, h1⟩ := h.2 h0 x hx
    obtain ⟨T, cs', h2, h3⟩ := hS _ hk
    exact h3 (h2.inj h1).1
  exact ⟨h.1.stays hs hn, fun h0 x hx => by obtain ⟨cs, h1⟩ := h.2 h0 x hx; exact ⟨cs, h1.stays hs (hn h0 x hx)⟩⟩
theorem AheadB.fut {w w' : World} {pa : Option Addr} {a : Bs} (h : AheadB w pa a) (hb : Below w.heap.size w w') : AheadB w' pa a := h.stays (Stays.of_below hb (Nat.le_refl _) (fun _ => False)) (fun _ h => h.elim)
theorem AheadB.nil (w : World) : AheadB w none [] := ⟨fun h => absurd rfl h, fun h => absurd rfl h⟩
theorem AheadB.own {w : World} {B n c : Nat} {pa : Option Addr} {a : Bs} (h : Own8 w B (.slice pa n c) a) : AheadB w pa a := by
  obtain ⟨q, m, d, e, _, _, _, hr⟩ := h.open
  injection e with e1 e2 e3
  subst e1
  refine ⟨hr, fun h0 x hx => ?_⟩
  rcases h.2 with ⟨e, h1⟩ | ⟨g, cap, cur, e, _, hh, _⟩
  · exact absurd (List.eq_nil_of_length_eq_zero h1) h0
  · injection e with e1
    rw [hx] at e1
    injection e1 with e1
    rw [e1]
    exact ⟨cur, hh⟩
structure HInv (g b3 b5 b7 : Nat) (w : World) (pa : Option Addr) (na ca : Nat) (a : Bs) (W : World) (xs : List Bs) : Prop where
  x3 : Blk W b3 118 #[.pointer (some ⟨g, 0, none⟩)]
  x5 : Blk W b5 26 #[.slice pa na ca]
  x7 : ∃ lv, Blk W b7 33 #[lv] ∧ RowO HashE 32 32 w.heap.size W lv xs
  ah : AheadB W pa a
  st : Stays (· = g) w W
theorem HInv.stays {g b3 b5 b7 na ca : Nat} {w W W' : World} {pa : Option Addr} {a : Bs} {xs : List Bs} (h : HInv g b3 b5 b7 w pa na ca a W xs) (hap : a ≠ [] → ∀ x, pa = some x → x.block ≠ g) (hn : b3 ≠ g ∧ b5 ≠ g ∧ b7 ≠ g) (hgw : g < w.heap.size) (hs : Stays (· = g) W W') : HInv g b3 b5 b7 w pa na ca a W' xs := by
  obtain ⟨x3, x5, ⟨lv, x7, x8⟩, ah, st⟩ := h
  exact ⟨x3.stays hs hn.1, x5.stays hs hn.2.1, ⟨lv, x7.stays hs hn.2.2, x8.sep (hashE_keeps _) hs (Sep.low fun k hk => by have : k = g := hk; omega)⟩, ⟨ah.1.stays hs hap, fun h0 x hx => by obtain ⟨cs, h1⟩ := ah.2 h0 x hx; exact ⟨cs, h1.stays hs (hap h0 x hx)⟩⟩, st.trans hs fun k _ h => h⟩
end Go.Proofs.YtjbijcjcejfpcaaGreatDoor
