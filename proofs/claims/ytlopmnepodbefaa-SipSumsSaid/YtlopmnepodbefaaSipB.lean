/- SipHash, the program: a word taken; up to eight bytes as a word. -/
import Derived.Test.YtlopmnepodbefaaSip
namespace Go.Proofs.Ytlopmnepodbefaa
open Go.RowKit
attribute [local go_sem] add64 xor64 or64 shlp64 shrp64 ext8_64 alloc_drewN setCell_drewN

def S4.take (s : S4) (m : BitVec 64) : S4 :=
  let t := (S4.round (S4.round { s with d := s.d ^^^ m }))
  { t with a := t.a ^^^ m }

set_option maxRecDepth 100000 in
set_option maxHeartbeats 1000000 in
theorem take_any (s : S4) (m : BitVec 64) (w : World) :
    Calls Try.prog 29 #[s.val, u64 m] w fun e w' => e = .returned (s.take m).val ∧ Below w.heap.size w w' := by
  obtain ⟨a, b, c, d⟩ := s
  have hv : (S4.mk a b c d).val = .agg #[u64 a, u64 b, u64 c, u64 d] := rfl
  rw [hv]
  clear hv
  go_enter Try.func29, Try.ntmps29
  go_wp2_with fail
  refine (round_any ⟨a, b, c, d ^^^ m⟩ _).mono ?_
  rintro e w1 ⟨rfl, hb1⟩
  go_wp2_with fail
  refine (round_any _ _).mono ?_
  rintro e w2 ⟨rfl, hb2⟩
  have hb := hb1.trans (hb2.mono hb1.size)
  have hk1 : Blk w2 w.heap.size 60 #[u64 a, u64 b, u64 c, u64 (d ^^^ m)] := Blk.below (((Blk.new w _ _).alloc _)) hb (by simp; omega)
  have hk2 : Blk w2 (w.heap.size + 1) 60 #[.int .u64 0, .int .u64 0, .int .u64 0, .int .u64 0] := Blk.below (by simpa using Blk.new (w.alloc (.cells #[u64 a, u64 b, u64 c, u64 (d ^^^ m)] 60)) 60 #[.int .u64 0, .int .u64 0, .int .u64 0, .int .u64 0]) hb (by simp)
  have hbw : Below w.heap.size w w2 := (((Below.refl _ _).alloc (Nat.le_refl _) _).alloc (by simp) _).trans (hb.mono (by simp; omega))
  have hz : w.heap.size + 1 < w2.heap.size := hk2.lt
  clear hb1 hb2 hb
  have hc1 := hk1.cell
  have hf1 := hk1.frozen
  have hc2 := hk2.cell
  have hf2 := hk2.frozen
  have HK1 := Lib.hid hk1
  have HK2 := Lib.hid hk2
  clear hk1 hk2
  obtain ⟨s2, hs2⟩ : ∃ s2 : S4, s2 = (S4.mk a b c (d ^^^ m)).round.round := ⟨_, rfl⟩
  rw [← hs2]
  have HS := Lib.hid hs2
  clear hs2
  obtain ⟨a2, b2, c2, d2⟩ := s2
  unfold S4.val
  go_wp2
  refine bodyPost_ret (v := .agg #[u64 (a2 ^^^ m), u64 b2, u64 c2, u64 d2]) (by simp [results, Try.results29, go_sem, hc2]) rfl ⟨ret_val ?_, ?_⟩
  · simp only [S4.take, ← HS.out]; rfl
  · repeat (refine Below.setCell ?_ (by simp) _)
    exact hbw

def wordTo (bs : List (BitVec 8)) (k : Nat) : BitVec 64 := (List.range k).foldl (fun n i => n ||| ((bs.getD i 0).setWidth 64 <<< (8 * i))) 0

theorem wordTo_succ (bs : List (BitVec 8)) (k : Nat) : wordTo bs (k + 1) = wordTo bs k ||| ((bs.getD k 0).setWidth 64 <<< (8 * k)) := by
  simp [wordTo, List.range_succ]
theorem zeros8 (bs : List (BitVec 8)) (k : Nat) (hk : k < 8) :
    ((splice [.int .u8 0, .int .u8 0, .int .u8 0, .int .u8 0, .int .u8 0, .int .u8 0, .int .u8 0, .int .u8 0] 0 ((bs.take 8).map u8)).toArray)[k]?.getD undef = u8 (bs.getD k 0) := by
  have hz : ∀ j, j < 8 → ([.int .u8 0, .int .u8 0, .int .u8 0, .int .u8 0, .int .u8 0, .int .u8 0, .int .u8 0, .int .u8 0] : List Value)[j]? = some (u8 0) := by
    intro j hj
    match j, hj with
    | 0, _ | 1, _ | 2, _ | 3, _ | 4, _ | 5, _ | 6, _ | 7, _ => rfl
  simp only [splice, List.take_zero, List.nil_append, Nat.zero_add, List.getElem?_toArray]
  by_cases h : k < bs.length
  · rw [List.getElem?_append_left (by simp; omega)]
    simp [hk, h, List.getD]
  · rw [List.getElem?_append_right (by simp; omega), List.getElem?_drop]
    have e : (List.map u8 (List.take 8 bs)).length = bs.length := by simp; omega
    rw [e, show bs.length + (k - bs.length) = k by omega, hz k hk]
    simp [List.getD, List.getElem?_eq_none (Nat.le_of_not_lt h)]
theorem zeros8_size (bs : List (BitVec 8)) :
    ((splice [.int .u8 0, .int .u8 0, .int .u8 0, .int .u8 0, .int .u8 0, .int .u8 0, .int .u8 0, .int .u8 0] 0 ((bs.take 8).map u8)).toArray).size = 8 := by
  simp [splice]; omega

set_option maxRecDepth 100000 in
set_option maxHeartbeats 1000000 in
theorem word_any (p : Option Addr) (c : Nat) (bs : List (BitVec 8)) (w : World) (hr : Row8 w p bs) :
    Calls Try.prog 30 #[.slice p bs.length c] w fun e w' => e = .returned (u64 (wordTo bs 8)) ∧ Below w.heap.size w w' := by
  obtain ⟨cs, hcs⟩ : ∃ cs, cs = (splice [.int .u8 0, .int .u8 0, .int .u8 0, .int .u8 0, .int .u8 0, .int .u8 0, .int .u8 0, .int .u8 0] 0 ((bs.take 8).map u8)).toArray := ⟨_, rfl⟩
  have hsz : cs.size = 8 := by rw [hcs]; exact zeros8_size bs
  have hel : ∀ k, k < 8 → atA cs k = u8 (bs.getD k 0) := fun k hk => by rw [hcs]; exact zeros8 bs k hk
  obtain ⟨ti, hti, hts⟩ : ∃ ti, Try.prog.info? 5 = some ti ∧ ti.size = 1 := by
    have : (Try.prog.info? 5).map (·.size) = some 1 := by kernel_rfl
    exact Option.map_eq_some_iff.1 this
  have hix := run_index_arr (P := Try.prog) 68 5 8 .u8 ti Try.underlying68 Try.underlying5 hti hts
  have HIX := Lib.hid hix
  have HSZ := Lib.hid hsz
  have HEL := Lib.hid hel
  have HCS := Lib.hid hcs
  clear hix hsz hel hcs
  go_enter Try.func30, Try.ntmps30
  go_wp2_with first
    | (with_reducible refine wp_copy8 (o := ⟨some 9, _, _, _, _, _⟩) ?_ (.tmp 7) (.tmp 8) 30 30 ?_ 5 Try.underlying30 ?_ 8 8 c p bs w.heap.size 0 ?_ ?_ ?_ [.int .u8 0, .int .u8 0, .int .u8 0, .int .u8 0, .int .u8 0, .int .u8 0, .int .u8 0, .int .u8 0] 68 ?_ (min bs.length 8) ?_ ?_ w.heap.size w ?_ ?_ ?_
       · rfl
       · rfl
       · kernel_rfl
       · rfl
       · rfl
       · exact hr.below ((Below.refl w.heap.size w).alloc (Nat.le_refl _) _) (Nat.le_refl _)
       · exact Blk.new w _ _
       · rfl
       · simp only [List.length_cons, List.length_nil]; omega
       · exact (Below.refl w.heap.size w).alloc (Nat.le_refl _) _
       · exact Nat.le_refl _
       intro w1 hk1 hb1 hz1
       rw [← HCS.out] at hk1
       clear hz1)
    | (with_reducible refine wpList_load_row (o := ⟨some 10, _, _, _, _, _⟩) ?_ 68 (.tmp 3) ?_ w.heap.size ?_ 68 cs (0, 0) _ ?_ Try.underlying68 ?_ ?_ ?_
       · rfl
       · rfl
       · rfl
       · exact hk1.out
       · rfl
       · rw [HSZ.out]; kernel_rfl)
  have hix := HIX.out
  have hel := HEL.out
  have hcs8 := HSZ.out
  go_loop [4, 11] (fun n i => ∃ k : Nat, k ≤ 8 ∧ i = .int .i64 k ∧ n = u64 (wordTo bs k)) (fun _ i => 8 - (intOf i).toNat)
  case atStart => exact ⟨0, by omega, rfl, rfl⟩
  case round =>
    obtain ⟨k, hk, rfl, rfl⟩ := hrel
    by_cases hlt : k < 8
    · have hx := hel k hlt
      go_wp2
      go_round
      case rel => exact ⟨k + 1, by omega, by go_num, by rw [wordTo_succ]; rfl⟩
      case measure => simp [intOf]; omega
    · go_wp2
      go_ret
      obtain rfl : k = 8 := by omega
      exact ⟨rfl, hb1⟩
end Go.Proofs.Ytlopmnepodbefaa
