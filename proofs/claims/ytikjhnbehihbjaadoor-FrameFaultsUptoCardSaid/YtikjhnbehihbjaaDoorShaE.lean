/- sporranref01.padded: the walk. -/
import Derived.Test.YtikjhnbehihbjaaDoorShaD
namespace Go.Proofs.YtikjhnbehihbjaaDoor
open Go.RowKit

def noughts (n : Nat) : List (BitVec 8) := List.replicate n 0#8
theorem noughts_succ (n : Nat) : noughts (n + 1) = noughts n ++ [0#8] := by simp [noughts, List.replicate_succ']
/-- a number's byte, the highest is the first -/
def beN (n : BitVec 64) (i : Nat) : BitVec 8 := (n >>> (56 - 8 * i)).setWidth 8
def be64 (n : BitVec 64) (k : Nat) : List (BitVec 8) := (List.range k).map (beN n)
theorem be64_succ (n : BitVec 64) (k : Nat) : be64 n (k + 1) = be64 n k ++ [beN n k] := by simp [be64, List.range_succ]
theorem be64_len (n : BitVec 64) (k : Nat) : (be64 n k).length = k := by simp [be64]
theorem new_oneS (w : World) (b : BitVec 8) : Row8 (w.alloc (.cells #[u8 b] 5)) (some ⟨w.heap.size, 0, none⟩) [b] := fun _ =>
  ⟨_, 0, rfl, by simp, fun i x hx => by
    rw [(Blk.new w _ _).cell]
    cases i with
    | zero => simp at hx ⊢; rw [hx]
    | succ i => simp at hx⟩
/-- how many noughts -/
def padZ (n : Nat) : Nat := (119 - n % 64) % 64
theorem own_open {w : World} {B : Nat} {v : Value} {bs : List (BitVec 8)} (h : Own8 w B v bs) : ∃ p n c, v = .slice p n c ∧ Hid (bs.length = n) ∧ n ≤ c ∧ c ≤ 9223372036854775807 ∧ Row8 w p bs := by
  obtain ⟨p, c, h1, h2, h3, h4⟩ := h.row
  exact ⟨p, bs.length, c, h1, Lib.hid rfl, h2, by unfold maxLen at h3; omega, h4⟩
def lenS : Value → Nat
  | .slice _ n _ => n
  | _ => 0
/-- bytes, and what stands behind them -/
def pad (bs : List (BitVec 8)) : List (BitVec 8) := bs ++ [128#8] ++ noughts (padZ bs.length) ++ be64 (BitVec.ofNat 64 (8 * bs.length)) 8

set_option maxRecDepth 100000 in
set_option maxHeartbeats 4000000 in
theorem padded_any (p : Option Addr) (n c : Nat) (bs : List (BitVec 8)) (w : World) (hr : Row8 w p bs) (hn : bs.length = n) (hbig : n ≤ 140737488355000) :
    Calls Tryd.prog 45 #[.slice p n c] w (GivesOwn w (pad bs)) := by
  have HN := Lib.hid hn
  clear hn
  go_enter Tryd.func45, Tryd.ntmps45
  have ho0 : Own8 (w.alloc (.cells #[] 5)) w.heap.size (.slice (some ⟨w.heap.size, 0, none⟩) 0 0) [] :=
    ⟨rfl, .inr ⟨w.heap.size, 0, #[], rfl, Nat.le_refl _, Blk.new w _ _, Nat.le_refl _, by unfold maxLen; omega, rfl, rfl⟩⟩
  have hb0 : Below w.heap.size w (w.alloc (.cells #[] 5)) := (Below.refl _ _).alloc (Nat.le_refl _) _
  have hr0 := hr.below hb0 (Nat.le_refl _)
  have hsz0 := hb0.size
  go_wp2_with (first
    | (with_reducible refine wp_append8 (o := ⟨some 8, _, _, _, _, _⟩) ?_ (.tmp 6) (.tmp 7) ?_ w.heap.size _ [] ?_ ho0 p n c bs ?_ HN.out hr0 ?_ hsz0 w.heap.size w hb0 ?_ ?_
       · rfl
       · rfl
       · rfl
       · rfl
       · rw [HN.out]; simp only [List.length_nil]; omega
       · exact Nat.le_refl _
       intro v1 w1 ho1 hb1 _ _
       have hsz1 := hb1.size
       have hb1a := hb1.alloc hsz1 (.cells #[.int .u8 128] 5)
       have hsz1a := hb1a.size
       have ho1a := ho1.alloc (.cells #[.int .u8 128] 5)
       have hrow1 : Row8 (w1.alloc (.cells #[.int .u8 128] 5)) (some ⟨w1.heap.size, 0, none⟩) [128#8] := new_oneS w1 128#8)
    | (with_reducible refine wp_append8 (o := ⟨some 10, _, _, _, _, _⟩) ?_ (.tmp 8) (.tmp 9) ?_ w.heap.size _ ([] ++ bs) ?_ ho1a (some ⟨w1.heap.size, 0, none⟩) 1 1 [128#8] ?_ rfl hrow1 ?_ hsz1a w.heap.size w hb1a ?_ ?_
       · rfl
       · rfl
       · rfl
       · rfl
       · rw [List.nil_append, HN.out]; simp only [List.length_cons, List.length_nil]; omega
       · exact Nat.le_refl _
       intro v2 w2 ho2 hb2 _ _))
  obtain ⟨P, hP⟩ : ∃ P, P = bs ++ [128#8] := ⟨_, rfl⟩
  rw [List.nil_append, ← hP] at ho2
  have hPl : P.length = n + 1 := by rw [hP, List.length_append, HN.out]; rfl
  have HP := Lib.hid hP
  have HPL := Lib.hid hPl
  clear hP hPl hb0 hr0 hsz0 ho0
  go_loopw [3] (fun v wr => ∃ k : Nat, k ≤ padZ n ∧ Own8 wr w.heap.size v (P ++ noughts k) ∧ Below w.heap.size w wr) (fun v _ => n + 1 + padZ n - lenS v)
  case atStart => exact ⟨0, Nat.zero_le _, by simpa [noughts] using ho2, hb2⟩
  case round =>
    obtain ⟨k, hk, ho3, hb3⟩ := hrel
    have hl : (P ++ noughts k).length = n + 1 + k := by rw [List.length_append, HPL.out]; simp [noughts]
    obtain ⟨q, len, cap, rfl, hlen, hl3, hm3, hr3⟩ := own_open ho3
    have hln : len = n + 1 + k := by rw [← hlen.out, hl]
    have hz64 : padZ n ≤ 63 := by unfold padZ; omega
    obtain ⟨R, hR⟩ : ∃ R : Nat, R = len % 64 := ⟨_, rfl⟩
    have ht : Int.tmod (len : Int) 64 = (R : Int) := by rw [Int.tmod_eq_emod_of_nonneg (by omega), hR]; omega
    have ht2 : (len : Int) % 64 = (R : Int) := by rw [hR]; omega
    have HR := Lib.hid hR
    have HLN := Lib.hid hln
    clear hR hln hl
    by_cases hkz : k < padZ n
    · have hne : ((R : Int) != 56) = true := by
        have := HR.out
        have := HLN.out
        unfold padZ at hkz
        simp
        omega
      have hsz3 := hb3.size
      have hb3a := hb3.alloc hsz3 (.cells #[.int .u8 0] 5)
      have hsz3a := hb3a.size
      have ho3a := ho3.alloc (.cells #[.int .u8 0] 5)
      have hrow3 : Row8 (wr.alloc (.cells #[.int .u8 0] 5)) (some ⟨wr.heap.size, 0, none⟩) [0#8] := new_oneS wr 0#8
      go_wp2_with (with_reducible refine wp_append8 (o := ⟨some 17, _, _, _, _, _⟩) ?_ (.tmp 15) (.tmp 16) ?_ w.heap.size _ (P ++ noughts k) ?_ ho3a (some ⟨wr.heap.size, 0, none⟩) 1 1 [0#8] ?_ rfl hrow3 ?_ hsz3a w.heap.size w hb3a ?_ ?_
                   · rfl
                   · rfl
                   · rfl
                   · rfl
                   · rw [hlen.out, HLN.out]; simp only [List.length_cons, List.length_nil]; omega
                   · exact Nat.le_refl _
                   intro v4 w4 ho4 hb4 _ _)
      have ho5 : Own8 w4 w.heap.size v4 (P ++ noughts (k + 1)) := by rw [noughts_succ, ← List.append_assoc]; exact ho4
      have hl4 : (P ++ noughts (k + 1)).length = n + 1 + (k + 1) := by rw [List.length_append, HPL.out]; simp [noughts]
      obtain ⟨q4, len4, cap4, rfl, hlen4, _, _, _⟩ := own_open ho5
      go_roundw
      case rel => exact ⟨k + 1, by omega, ho5, hb4⟩
      case measure =>
        have e1 := HLN.out
        have e2 : len4 = n + 1 + (k + 1) := by rw [← hlen4.out, hl4]
        simp only [lenS]
        omega
    · have hkz' : k = padZ n := by omega
      subst hkz'
      have hne : ((R : Int) != 56) = false := by
        have := HR.out
        have := HLN.out
        unfold padZ at this
        simp
        omega
      obtain ⟨N, hN⟩ : ∃ N, N = BitVec.ofNat 64 (8 * n) := ⟨_, rfl⟩
      have hiv : iv64 N = (n : Int) * 8 := by
        rw [hN]; unfold iv64; rw [BitVec.toNat_ofNat, Nat.mod_eq_of_lt (by omega)]; omega
      obtain ⟨Q, hQ⟩ : ∃ Q, Q = P ++ noughts (padZ n) := ⟨_, rfl⟩
      rw [← hQ] at ho3 hlen
      have HQ := Lib.hid hQ
      have HNN := Lib.hid hN
      have HIV := Lib.hid hiv
      clear hQ hN hiv hr3 ho1a hrow1 ho1 hb1a hsz1a
      go_wp2
      go_loopw [3, 22] (fun v i wr => ∃ k : Nat, k ≤ 8 ∧ i = .int .i64 k ∧ Own8 wr w.heap.size v (Q ++ be64 N k) ∧ Below w.heap.size w wr) (fun _ i _ => 8 - (intOf i).toNat)
      case atStart => exact ⟨0, by omega, rfl, by simpa [be64] using ho3, hb3⟩
      case round =>
        obtain ⟨k, hk8, rfl, ho6, hb6⟩ := hrel
        have hlk : (Q ++ be64 N k).length = len + k := by rw [List.length_append, hlen.out, be64_len]
        have HLK := Lib.hid hlk
        clear hlk
        by_cases hk : k < 8
        · have hlt : (k : Int) < 8 := by omega
          have hsz6 := hb6.size
          have hb1 : (0 : Int) ≤ 8 * (k : Int) := by omega
          have hb2 : 8 * (k : Int) ≤ 56 := by omega
          have hb3' : (0 : Int) ≤ 56 - 8 * (k : Int) := by omega
          have hsh : IntKind.u8.wrap ((n : Int) * 8 / 2 ^ (56 - 8 * k)) = iv8 (beN N k) := by rw [← HIV.out, shrp64, cut64_8]; rfl
          have hrow6 := new_oneS wr (beN N k)
          go_wp2_with (with_reducible refine wp_append8 (o := ⟨some 33, _, _, _, _, _⟩) ?_ (.tmp 25) (.tmp 32) ?_ w.heap.size _ (Q ++ be64 N k) ?_ (ho6.alloc _) (some ⟨wr.heap.size, 0, none⟩) 1 1 [beN N k] ?_ rfl ?_ ?_ ?_ w.heap.size w ?_ ?_ ?_
                       · rfl
                       · rfl
                       · rfl
                       · rfl
                       · exact hrow6
                       · rw [HLK.out, HLN.out]; simp only [List.length_cons, List.length_nil]; omega
                       · simp only [World.size_alloc]; omega
                       · exact hb6.alloc hsz6 _
                       · exact Nat.le_refl _
                       intro v7 w7 ho7 hb7 _ _)
          rw [List.append_assoc, ← be64_succ] at ho7
          go_roundw
          case rel => exact ⟨k + 1, by omega, by go_num, ho7, hb7⟩
          case measure => simp [intOf]; omega
        · have hk8' : k = 8 := by omega
          subst hk8'
          have hge : ¬ ((8 : Nat) : Int) < 8 := by omega
          go_wp2
          go_ret
          have e : pad bs = Q ++ be64 N 8 := by unfold pad; rw [HN.out, ← HNN.out, ← HP.out, ← HQ.out]
          exact ⟨_, rfl, by rw [e]; exact ho6, hb6⟩
end Go.Proofs.YtikjhnbehihbjaaDoor
