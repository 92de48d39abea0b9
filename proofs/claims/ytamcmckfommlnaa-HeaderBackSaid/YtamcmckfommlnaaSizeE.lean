/- sporran/size.Decode, Text; sporranref05.Text: the walks. -/
import Derived.Test.YtamcmckfommlnaaSizeD
namespace Go.Proofs.Ytamcmckfommlnaa
open Go.RowKit

theorem Row8.none_len {w : World} {q : Option Addr} {bs : List (BitVec 8)} (h : Row8 w q bs) (hq : q = none) : bs.length = 0 := by
  by_cases hb : bs = []
  · rw [hb]; rfl
  · obtain ⟨b, off, e, _⟩ := h hb
    rw [hq] at e; cases e
theorem cutP_short (bs : List (BitVec 8)) : (cutP bs).2.1.length ≤ bs.length := by
  cases bs with
  | nil => simp [cutP]
  | cons b r =>
    simp only [cutP]
    split
    · simp
    · split
      · simp
      · split
        · simp
        · simp; omega
def DecPost (w : World) (x : BitVec 64 × List (BitVec 8) × Int) (e : Ending) (w' : World) : Prop :=
  ∃ v, e = .returned (.tuple #[.int .u64 (iv64 x.1), v, .int .i64 x.2.2]) ∧ Own8 w' w.heap.size v x.2.1 ∧ Below w.heap.size w w'

set_option maxRecDepth 100000 in
set_option maxHeartbeats 2000000 in
theorem decode_any (p : Option Addr) (n c : Nat) (bs : List (BitVec 8)) (w : World) (hr : Row8 w p bs) (hn : bs.length = n) (hl : n ≤ c) (hb : c ≤ 9223372036854775807) (hbig : n ≤ 140737488355328) :
    Calls Try.prog 18 #[.slice p n c] w (DecPost w (cutP bs)) := by
  have HN := Lib.hid hn
  clear hn
  go_enter Try.func18, Try.ntmps18
  go_wp2_with fail
  refine (cut_any p n c bs _ hr HN.out hl hb).mono ?_
  rintro e w1 ⟨q, d, rfl, hd, hq, hb1⟩
  have hcs := cutP_short bs
  rw [HN.out] at hcs
  obtain ⟨x, hx⟩ : ∃ x, x = cutP bs := ⟨_, rfl⟩
  rw [← hx] at hd hq hcs ⊢
  have HX := Lib.hid hx
  clear hx
  obtain ⟨N, R, E⟩ := x
  dsimp only at hd hq hcs ⊢
  go_wp2_with fail
  refine (clone_any q _ d R w1 hq rfl (by omega) hq.none_len).mono ?_
  rintro e w2 ⟨v, rfl, hown, hb2⟩
  have hbw := hb1.trans (hb2.mono hb1.size)
  have hown2 := hown.mono hb1.size
  go_wp2
  go_ret3
  rw [← HX.out]
  exact ⟨v, rfl, hown2, hbw⟩

/-- bytes with their count ahead -/
def text (bs : List (BitVec 8)) : List (BitVec 8) := enc (BitVec.ofNat 64 bs.length) ++ bs
theorem enc_len (n : BitVec 64) : (enc n).length ≤ 9 := by
  unfold enc
  split
  · simp
  · split
    · simp [low_len]
    · split <;> simp [low_len]
theorem iv64_nat (n : Nat) (h : n < 18446744073709551616) : iv64 (BitVec.ofNat 64 n) = (n : Int) := by
  unfold iv64; rw [BitVec.toNat_ofNat, Nat.mod_eq_of_lt (by omega)]

set_option maxRecDepth 100000 in
set_option maxHeartbeats 2000000 in
theorem text_any (p : Option Addr) (n c : Nat) (bs : List (BitVec 8)) (w : World) (hr : Row8 w p bs) (hn : bs.length = n) (hbig : n ≤ 140737488355000) :
    Calls Try.prog 23 #[.slice p n c] w (GivesOwn w (text bs)) := by
  have HN := Lib.hid hn
  clear hn
  have hiv := iv64_nat n (by omega)
  have hel := enc_len (BitVec.ofNat 64 n)
  have HT : Hid (text bs = enc (BitVec.ofNat 64 n) ++ bs) := Lib.hid (by unfold text; rw [HN.out])
  go_enter Try.func23, Try.ntmps23
  go_wp2_with fail
  rw [← hiv]
  refine (encode_any (BitVec.ofNat 64 n) _).mono ?_
  rintro e w1 ⟨v, rfl, hown, hb1⟩
  have hr1 := hr.below hb1 (Nat.le_refl _)
  have hsz := hb1.size
  obtain ⟨E, hE⟩ : ∃ E, E = enc (BitVec.ofNat 64 n) := ⟨_, rfl⟩
  rw [← hE] at hown hel HT
  clear hE hiv
  go_wp2_with (with_reducible refine wp_append8 (o := ⟨some 8, _, _, _, _, _⟩) ?_ (.tmp 6) (.tmp 7) ?_ w.heap.size v E ?_ hown p n c bs ?_ HN.out hr1 ?_ hsz w.heap.size w hb1 ?_ ?_
               · rfl
               · rfl
               · rfl
               · rfl
               · rw [HN.out]; omega
               · exact Nat.le_refl _
               intro v3 w3 ho3 hb3 _ _)
  go_ret
  exact GivesOwn.of HT ho3 hb3
set_option maxRecDepth 100000 in
set_option maxHeartbeats 2000000 in
theorem refText_any (p : Option Addr) (n c : Nat) (bs : List (BitVec 8)) (w : World) (hr : Row8 w p bs) (hn : bs.length = n) (hbig : n ≤ 140737488355000) :
    Calls Try.prog 25 #[.slice p n c] w (GivesOwn w (text bs)) := by
  have HN := Lib.hid hn
  clear hn
  have hiv := iv64_nat n (by omega)
  have hel := enc_len (BitVec.ofNat 64 n)
  have HT : Hid (text bs = enc (BitVec.ofNat 64 n) ++ bs) := Lib.hid (by unfold text; rw [HN.out])
  go_enter Try.func25, Try.ntmps25
  go_wp2_with fail
  rw [← hiv]
  refine (refEncode_any (BitVec.ofNat 64 n) _).mono ?_
  rintro e w1 ⟨v, rfl, hown, hb1⟩
  have hr1 := hr.below hb1 (Nat.le_refl _)
  have hsz := hb1.size
  obtain ⟨E, hE⟩ : ∃ E, E = enc (BitVec.ofNat 64 n) := ⟨_, rfl⟩
  rw [← hE] at hown hel HT
  clear hE hiv
  go_wp2_with (with_reducible refine wp_append8 (o := ⟨some 8, _, _, _, _, _⟩) ?_ (.tmp 6) (.tmp 7) ?_ w.heap.size v E ?_ hown p n c bs ?_ HN.out hr1 ?_ hsz w.heap.size w hb1 ?_ ?_
               · rfl
               · rfl
               · rfl
               · rfl
               · rw [HN.out]; omega
               · exact Nat.le_refl _
               intro v3 w3 ho3 hb3 _ _)
  go_ret
  exact GivesOwn.of HT ho3 hb3
end Go.Proofs.Ytamcmckfommlnaa
