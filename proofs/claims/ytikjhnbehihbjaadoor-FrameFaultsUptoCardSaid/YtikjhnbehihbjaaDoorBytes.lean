/- bytes.Clone and bytes.Equal, said of lists of bytes. -/
import Derived.Test.YtikjhnbehihbjaaDoorKit
import Derived.Test.YtikjhnbehihbjaaDoorShelf
namespace Go.Proofs.YtikjhnbehihbjaaDoor
open Go.RowKit

/-- v is a slice of the call's own (its block from B on) that holds just these bytes -/
def Own8 (w : World) (B : Nat) (v : Value) (bs : List (BitVec 8)) : Prop := w.ownsRow B 5 1 v bs.length (bs.map u8)
section
variable {w w' : World} {B : Nat} {v : Value} {bs : List (BitVec 8)} {p : Option Addr}
theorem cells_map (bs : List (BitVec 8)) : bs.map u8 = (bs.map iv8).map (Value.int .u8) := by simp [u8]
theorem Own8.row (h : Own8 w B v bs) : ∃ p c, v = .slice p bs.length c ∧ bs.length ≤ c ∧ c ≤ maxLen ∧ Row8 w p bs := by
  rcases h.2 with ⟨rfl, h0⟩ | ⟨g, cap, cur, rfl, _, hh, hc, hm, hs, ht⟩
  · exact ⟨none, 0, by rw [h0], by omega, by unfold maxLen; omega, fun hn => absurd (List.eq_nil_of_length_eq_zero h0) hn⟩
  · refine ⟨_, cap, rfl, hc, hm, fun _ => ⟨g, 0, rfl, Blk.lt hh, fun i x hx => ?_⟩⟩
    rw [Nat.zero_add, Blk.cell hh]
    have hl : i < bs.length := by
      rcases Nat.lt_or_ge i bs.length with h1 | h1
      · exact h1
      · rw [List.getElem?_eq_none h1] at hx; cases hx
    have : (cur.toList.take (bs.length * 1))[i]? = (bs.map u8)[i]? := by rw [ht]
    rw [List.getElem?_take, if_pos (by omega), List.getElem?_map, hx] at this
    simpa using this
/-- the row, and that its block lies from B on -/
theorem Own8.row' (h : Own8 w B v bs) : ∃ p c, v = .slice p bs.length c ∧ bs.length ≤ c ∧ c ≤ maxLen ∧ Row8 w p bs ∧ (∀ a, p = some a → B ≤ a.block) := by
  obtain ⟨p, c, rfl, h1, h2, h3⟩ := h.row
  refine ⟨p, c, rfl, h1, h2, h3, fun a ha => ?_⟩
  subst ha
  rcases h.2 with ⟨e, _⟩ | ⟨g, cap, cur, e, hg, _⟩
  · cases e
  · injection e with e1; injection e1 with e1; subst e1; exact hg
theorem Row8.bytesIn {n : Nat} (h : Row8 w p bs) (hn : bs.length = n) : Lib.BytesIn w p n (bs.map iv8) := by
  subst hn
  by_cases h0 : bs = []
  · subst h0; exact Lib.BytesIn.nil w p []
  · obtain ⟨b, off, rfl, hlt, hc⟩ := h h0
    refine Lib.BytesIn.of_cells fun i hi => ?_
    rw [Addr.add_lit, hc i bs[i] (List.getElem?_eq_getElem hi)]
    simp [u8, List.getD, List.getElem?_eq_getElem hi]
theorem bytesOf_eq (as1 bs : List (BitVec 8)) : (Lib.bytesOf (as1.map iv8) == Lib.bytesOf (bs.map iv8)) = decide (as1 = bs) := by
  have hinj : ∀ as1 bs : List (BitVec 8), Lib.bytesOf (as1.map iv8) = Lib.bytesOf (bs.map iv8) → as1 = bs := by
    intro as1
    induction as1 with
    | nil => intro bs h; cases bs with
      | nil => rfl
      | cons b bs => simp [Lib.bytesOf] at h
    | cons a as1 ih =>
      intro bs h
      cases bs with
      | nil => simp [Lib.bytesOf] at h
      | cons b bs =>
        simp only [Lib.bytesOf, List.map_cons, List.cons.injEq] at h
        have h1 : a = b := by
          have h2 := congrArg UInt8.toNat h.1
          simp only [iv8, Int.toNat_natCast, UInt8.toNat_ofNat'] at h2
          have ha := a.isLt
          have hb := b.isLt
          exact BitVec.eq_of_toNat_eq (by omega)
        rw [h1, ih bs h.2]
  by_cases h : as1 = bs
  · subst h; simp
  · rw [decide_eq_false h, beq_eq_false_iff_ne]
    exact fun e => h (hinj as1 bs e)
end

/-- the post of a call that hands back new bytes -/
def GivesOwn (w : World) (bs : List (BitVec 8)) (e : Ending) (w' : World) : Prop := ∃ v, e = .returned v ∧ Own8 w' w.heap.size v bs ∧ Below w.heap.size w w'

theorem clone_any (p : Option Addr) (n c : Nat) (bs : List (BitVec 8)) (w : World) (hr : Row8 w p bs) (hn : bs.length = n) (hbig : n ≤ 140737488355328) (hp : p = none → n = 0) :
    Calls Tryd.prog 16 #[.slice p n c] w (GivesOwn w bs) := by
  subst hn
  cases p with
  | none =>
    obtain rfl : bs = [] := List.eq_nil_of_length_eq_zero (hp rfl)
    exact (Tryd.bytes_Clone_nil _ _ w).mono fun e w' ⟨he, hw⟩ => ⟨_, he, ⟨rfl, .inl ⟨rfl, rfl⟩⟩, by rw [hw]; exact Below.refl _ _⟩
  | some a =>
    refine (Tryd.bytes_Clone_at a bs.length c (bs.map iv8) w (by simp) hbig (fun i hi => ?_)).mono fun e w' ⟨v, he, ho, _, hb⟩ => ⟨v, he, by unfold Own8; rw [cells_map]; exact ho, hb⟩
    obtain ⟨b, off, e, hlt, hc⟩ := hr (fun e => by rw [e] at hi; simp at hi)
    injection e with e
    subst e
    rw [Addr.add_lit, hc i bs[i] (List.getElem?_eq_getElem hi)]
    simp [u8, List.getD, List.getElem?_eq_getElem hi]

theorem equal_any (p1 p2 : Option Addr) (n c m d : Nat) (as1 bs : List (BitVec 8)) (w : World) (h1 : Row8 w p1 as1) (h2 : Row8 w p2 bs) (hn : as1.length = n) (hm : bs.length = m) :
    Calls Tryd.prog 11 #[.slice p1 n c, .slice p2 m d] w fun e w' => e = .returned (.bool (decide (as1 = bs))) ∧ w' = w := by
  rw [← bytesOf_eq]
  exact Tryd.bytes_Equal_all p1 p2 n c m d (as1.map iv8) (bs.map iv8) w (by simpa using hn) (by simpa using hm) (h1.bytesIn hn) (h2.bytesIn hm)
end Go.Proofs.YtikjhnbehihbjaaDoor
