/- Layer 14: where a letter stands in a text, in the program and in the reference; ones ahead: the walks. -/
import Derived.Test.YtbkpgdfkjijagaaDoorShelf
import Derived.Test.YtbkpgdfkjijagaaDoorAdrP
import Derived.Test.YtbkpgdfkjijagaaDoorNat64
import Derived.Test.YtbkpgdfkjijagaaDoorStrB
import Derived.Test.YtbkpgdfkjijagaaDoorGA
namespace Go.Proofs.YtbkpgdfkjijagaaDoor
open Go.RowKit
set_option linter.unusedVariables false

/-- where a byte stands; -1: it does not -/
def placeI (L : List (BitVec 8)) (c : BitVec 8) : Int := if L.idxOf c < L.length then (L.idxOf c : Int) else -1
theorem placeI_at {L : List (BitVec 8)} {c x : BitVec 8} {k : Nat} (hx : L[k]? = some x) (he : x = c) (hno : ∀ j y, j < k → L[j]? = some y → y ≠ c) : placeI L c = (k : Int) := by
  obtain ⟨hk, hx⟩ := List.getElem?_eq_some_iff.1 hx
  have h1 : L.idxOf c = k := by
    unfold List.idxOf
    rw [List.findIdx_eq hk]
    refine ⟨by rw [hx, he]; simp, fun j hj => ?_⟩
    have := hno j _ hj (List.getElem?_eq_getElem (Nat.lt_trans hj hk))
    simp [this]
  unfold placeI
  rw [h1, if_pos hk]
theorem placeI_no {L : List (BitVec 8)} {c : BitVec 8} (hno : ∀ j y, j < L.length → L[j]? = some y → y ≠ c) : placeI L c = -1 := by
  unfold placeI
  rw [if_neg]
  intro h
  have h1 := List.findIdx_getElem (p := (· == c)) (xs := L) (w := h)
  exact hno _ _ h (List.getElem?_eq_getElem h) (eq_of_beq h1)
theorem ix58 (c : BitVec 8) : placeI alph58 c = if pl58 c < 58 then (pl58 c : Int) else -1 := rfl
def U58 : List UInt8 := [49, 50, 51, 52, 53, 54, 55, 56, 57, 65, 66, 67, 68, 69, 70, 71, 72, 74, 75, 76, 77, 78, 80, 81, 82, 83, 84, 85, 86, 87, 88, 89, 90, 97, 98, 99, 100, 101, 102, 103, 104, 105, 106, 107, 109, 110, 111, 112, 113, 114, 115, 116, 117, 118, 119, 120, 121, 122]
theorem str58 : strB alph58 = ⟨U58.toArray⟩ := by rfl
theorem idx58 (c : BitVec 8) : Lib.indexByte U58 ((iv8 c).toNat.toUInt8) = placeI alph58 c := by revert c; decide +kernel
theorem idx58_any (c : BitVec 8) (w : World) : Calls Tryd.prog 14 #[.string (strB alph58), .int .u8 (iv8 c)] w fun e w' => e = .returned (.int .i64 (placeI alph58 c)) ∧ w' = w :=
  (Tryd.strings_IndexByte (strB alph58) (iv8 c) w).mono fun e w' ⟨h1, h2⟩ => ⟨by rw [h1]; exact congrArg (fun z => Ending.returned (.int .i64 z)) (idx58 c), h2⟩

set_option maxRecDepth 100000 in
theorem place_any (L : List (BitVec 8)) (c : BitVec 8) (w : World) (hL : L.length ≤ 9223372036854775806) : Calls Tryd.prog 17 #[.string (strB L), .int .u8 (iv8 c)] w fun e w' => e = .returned (.int .i64 (placeI L c)) ∧ w' = w := by
  have hsz : (strB L).size = L.length := strB_size L
  obtain ⟨S, hS⟩ : ∃ S, S = strB L := ⟨_, rfl⟩
  have HIX : Hid (∀ (k : Nat) (x : BitVec 8), L[k]? = some x → ∀ W, (Instr.index 9 (.string S) (.int .i64 (k : Int))).run Tryd.prog W = .ok (.int .u8 (iv8 x)) W) := Lib.hid (fun k x h W => by rw [hS]; exact strB_index L k x h W)
  rw [← hS] at hsz ⊢
  have HSZ := Lib.hid hsz
  obtain ⟨N, hN⟩ : ∃ N, N = L.length := ⟨_, rfl⟩
  have HN := Lib.hid hN
  have hsz' : S.size = N := by rw [hsz, hN]
  rw [← hN] at hL
  clear hsz hS hN
  go_enter Tryd.func17, Tryd.ntmps17
  go_wp2_with fail
  go_loop [5] (fun i => ∃ k : Nat, k ≤ N ∧ i = .int .i64 k ∧ Hid (∀ j y, j < k → L[j]? = some y → y ≠ c)) (fun i => N - (intOf i).toNat)
  case atStart => exact ⟨0, by omega, rfl, Lib.hid fun j y h => absurd h (by omega)⟩
  case round =>
    obtain ⟨k, hk, rfl, hno⟩ := hrel
    by_cases hkn : k < N
    · have hlt : (k : Int) < (S.size : Int) := by rw [hsz']; omega
      obtain ⟨x, hx⟩ : ∃ x, L[k]? = some x := ⟨_, List.getElem?_eq_getElem (by rw [← HN.out]; exact hkn)⟩
      have hix := HIX.out k x hx
      by_cases he : x = c
      · have heq : (iv8 x == iv8 c) = true := by rw [eqv8, he]; simp
        have HR := Lib.hid (placeI_at hx he hno.out)
        clear hx he
        go_wp2_with fail
        go_ret
        exact ⟨by rw [HR.out]; rfl, rfl⟩
      · have heq : (iv8 x == iv8 c) = false := by rw [eqv8]; simpa using he
        have hno2 : Hid (∀ j y, j < k + 1 → L[j]? = some y → y ≠ c) := Lib.hid (fun j y hj hy => by
          by_cases h : j < k
          · exact hno.out j y h hy
          · obtain rfl : j = k := by omega
            rw [hx] at hy; injection hy with hy; rw [← hy]; exact he)
        clear hx he
        go_wp2_with fail
        go_round
        case rel => exact ⟨k + 1, by omega, by simp, hno2⟩
        case measure => simp [intOf]; omega
    · have hlt : ¬ (k : Int) < (S.size : Int) := by rw [hsz']; omega
      have HR := Lib.hid (placeI_no (L := L) (c := c) (fun j y hj hy => hno.out j y (by have := HN.out; omega) hy))
      go_wp2_with fail
      go_ret
      exact ⟨by rw [HR.out]; rfl, rfl⟩

theorem ones_drop (s : List (BitVec 8)) : ((s.map fun b => UInt8.ofNat (iv8 b).toNat).dropWhile (· == 49)).length + lead (s.map pl58) = s.length := by
  have key : ∀ b : BitVec 8, ((UInt8.ofNat (iv8 b).toNat) == 49) = (pl58 b == 0) := by decide +kernel
  induction s with
  | nil => rfl
  | cons b s ih =>
    rw [List.map_cons, List.map_cons]
    unfold lead at ih ⊢
    cases h : pl58 b == 0 with
    | true => rw [List.dropWhile_cons_of_pos (by rw [key, h]), List.takeWhile_cons_of_pos (p := fun x => x == 0) h, List.length_cons, List.length_cons]; omega
    | false => rw [List.dropWhile_cons_of_neg (by rw [key, h]; simp), List.takeWhile_cons_of_neg (p := fun x => x == 0) (by rw [h]; simp)]; simp
theorem ones_any (s : List (BitVec 8)) (w : World) : Calls Tryd.prog 15 #[.string (strB s), .string ⟨#[49]⟩] w fun e w' => (∃ T : ByteArray, e = .returned (.string T) ∧ Hid (T.size + lead (s.map pl58) = s.length)) ∧ w' = w :=
  (Tryd.strings_TrimLeft_one (strB s) 49 (by decide) w).mono fun e w' ⟨h1, h2⟩ => ⟨⟨_, h1, Lib.hid (by
    have := ones_drop s
    rw [← strB_data] at this
    exact this)⟩, h2⟩
/-- what a call gives that answers bytes of its own and a number -/
def DecB (w : World) (x : List (BitVec 8) × Int) (e : Ending) (w' : World) : Prop := ∃ v, e = .returned (.tuple #[v, .int .i64 x.2]) ∧ Own8 w' w.heap.size v x.1 ∧ Below w.heap.size w w'
end Go.Proofs.YtbkpgdfkjijagaaDoor
