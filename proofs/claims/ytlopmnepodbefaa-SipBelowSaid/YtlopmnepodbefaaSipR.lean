/- SipHash, the reference: a round and a word taken, on four words behind a pointer. -/
import Derived.Test.YtlopmnepodbefaaSipC
namespace Go.Proofs.Ytlopmnepodbefaa
open Go.RowKit
attribute [local go_sem] add64 xor64 or64 shlp64 shrp64 alloc_drewN setCell_drewN

set_option maxRecDepth 100000 in
set_option maxHeartbeats 2000000 in
theorem refRound_any (s : S4) (g : Nat) (w : World) (hk : Blk w g 66 s.cells) (B : Nat) (w0 : World) (hb : Below B w0 w) (hB : B ≤ g) :
    Calls Try.prog 33 #[.pointer (some ⟨g, 0, none⟩)] w fun e w' => e = .returned (.tuple #[]) ∧ Blk w' g 66 s.round.cells ∧ Below B w0 w' := by
  obtain ⟨a, b, c, d⟩ := s
  have hc : ∀ i, w.cell? ⟨g, i, none⟩ = #[u64 a, u64 b, u64 c, u64 d][i]? := hk.cell
  have hf := hk.frozen
  have HK := Lib.hid hk
  clear hk
  go_enter Try.func33, Try.ntmps33
  go_wp2
  refine quiet_tail 11 (by kernel_rfl) (by kernel_rfl) ?_
  simp only [List.take_succ_cons, List.take_zero, List.drop_succ_cons, List.drop_zero]
  repeat (go_big_quiet_step (fail))
  refine wpQuiet_nil ?_
  rintro _ ⟨nq, rfl⟩
  go_wp2
  refine wp_abst (fun w' => Blk w' g 66 (S4.mk (a + b) (b) (c) (d)).cells ∧ Below B w0 w') ⟨(HK.out.set 0 _).drewN _, below_drewN (hb.setCell hB _) _⟩ ?_
  rintro w1 ⟨hk1, hb1⟩
  clear hc hf
  have hc : ∀ i, w1.cell? ⟨g, i, none⟩ = #[u64 (a + b), u64 (b), u64 (c), u64 (d)][i]? := hk1.cell
  have hf := hk1.frozen
  have HK1 := Lib.hid hk1
  clear hk1
  refine quiet_tail 13 (by kernel_rfl) (by kernel_rfl) ?_
  simp only [List.take_succ_cons, List.take_zero, List.drop_succ_cons, List.drop_zero]
  repeat (go_big_quiet_step (first | exact Calls.quiet_of (left_any _ 13 _ (by decide) (by decide)) | exact quiet_add (left_any _ 13 _ (by decide) (by decide))))
  refine wpQuiet_nil ?_
  rintro _ ⟨nq, rfl⟩
  go_wp2_with (go_at_call 35; refine (left_any _ _ _ (by decide) (by decide)).mono ?_; rintro e w1 ⟨rfl, nd, hw1⟩; subst hw1)
  refine wp_abst (fun w' => Blk w' g 66 (S4.mk (rl (a + b) 32) (rl b 13 ^^^ (a + b)) (c) (d)).cells ∧ Below B w0 w') ⟨((HK1.out.set 1 _).set 0 _).drewN _, below_drewN ((hb1.setCell hB _).setCell hB _) _⟩ ?_
  rintro w2 ⟨hk2, hb2⟩
  clear hc hf
  have hc : ∀ i, w2.cell? ⟨g, i, none⟩ = #[u64 (rl (a + b) 32), u64 (rl b 13 ^^^ (a + b)), u64 (c), u64 (d)][i]? := hk2.cell
  have hf := hk2.frozen
  have HK2 := Lib.hid hk2
  clear hk2
  refine quiet_tail 11 (by kernel_rfl) (by kernel_rfl) ?_
  simp only [List.take_succ_cons, List.take_zero, List.drop_succ_cons, List.drop_zero]
  repeat (go_big_quiet_step (fail))
  refine wpQuiet_nil ?_
  rintro _ ⟨nq, rfl⟩
  go_wp2
  refine wp_abst (fun w' => Blk w' g 66 (S4.mk (rl (a + b) 32) (rl b 13 ^^^ (a + b)) (c + d) (d)).cells ∧ Below B w0 w') ⟨(HK2.out.set 2 _).drewN _, below_drewN (hb2.setCell hB _) _⟩ ?_
  rintro w3 ⟨hk3, hb3⟩
  clear hc hf
  have hc : ∀ i, w3.cell? ⟨g, i, none⟩ = #[u64 (rl (a + b) 32), u64 (rl b 13 ^^^ (a + b)), u64 (c + d), u64 (d)][i]? := hk3.cell
  have hf := hk3.frozen
  have HK3 := Lib.hid hk3
  clear hk3
  refine quiet_tail 13 (by kernel_rfl) (by kernel_rfl) ?_
  simp only [List.take_succ_cons, List.take_zero, List.drop_succ_cons, List.drop_zero]
  repeat (go_big_quiet_step (first | exact Calls.quiet_of (left_any _ 16 _ (by decide) (by decide)) | exact quiet_add (left_any _ 16 _ (by decide) (by decide))))
  refine wpQuiet_nil ?_
  rintro _ ⟨nq, rfl⟩
  go_wp2
  refine wp_abst (fun w' => Blk w' g 66 (S4.mk (rl (a + b) 32) (rl b 13 ^^^ (a + b)) (c + d) (rl d 16 ^^^ (c + d))).cells ∧ Below B w0 w') ⟨(HK3.out.set 3 _).drewN _, below_drewN (hb3.setCell hB _) _⟩ ?_
  rintro w4 ⟨hk4, hb4⟩
  clear hc hf
  have hc : ∀ i, w4.cell? ⟨g, i, none⟩ = #[u64 (rl (a + b) 32), u64 (rl b 13 ^^^ (a + b)), u64 (c + d), u64 (rl d 16 ^^^ (c + d))][i]? := hk4.cell
  have hf := hk4.frozen
  have HK4 := Lib.hid hk4
  clear hk4
  refine quiet_tail 11 (by kernel_rfl) (by kernel_rfl) ?_
  simp only [List.take_succ_cons, List.take_zero, List.drop_succ_cons, List.drop_zero]
  repeat (go_big_quiet_step (fail))
  refine wpQuiet_nil ?_
  rintro _ ⟨nq, rfl⟩
  go_wp2
  refine wp_abst (fun w' => Blk w' g 66 (S4.mk (rl (a + b) 32 + (rl d 16 ^^^ (c + d))) (rl b 13 ^^^ (a + b)) (c + d) (rl d 16 ^^^ (c + d))).cells ∧ Below B w0 w') ⟨(HK4.out.set 0 _).drewN _, below_drewN (hb4.setCell hB _) _⟩ ?_
  rintro w5 ⟨hk5, hb5⟩
  clear hc hf
  have hc : ∀ i, w5.cell? ⟨g, i, none⟩ = #[u64 (rl (a + b) 32 + (rl d 16 ^^^ (c + d))), u64 (rl b 13 ^^^ (a + b)), u64 (c + d), u64 (rl d 16 ^^^ (c + d))][i]? := hk5.cell
  have hf := hk5.frozen
  have HK5 := Lib.hid hk5
  clear hk5
  refine quiet_tail 13 (by kernel_rfl) (by kernel_rfl) ?_
  simp only [List.take_succ_cons, List.take_zero, List.drop_succ_cons, List.drop_zero]
  repeat (go_big_quiet_step (first | exact Calls.quiet_of (left_any _ 21 _ (by decide) (by decide)) | exact quiet_add (left_any _ 21 _ (by decide) (by decide))))
  refine wpQuiet_nil ?_
  rintro _ ⟨nq, rfl⟩
  go_wp2
  refine wp_abst (fun w' => Blk w' g 66 (S4.mk (rl (a + b) 32 + (rl d 16 ^^^ (c + d))) (rl b 13 ^^^ (a + b)) (c + d) (rl (rl d 16 ^^^ (c + d)) 21 ^^^ (rl (a + b) 32 + (rl d 16 ^^^ (c + d))))).cells ∧ Below B w0 w') ⟨(HK5.out.set 3 _).drewN _, below_drewN (hb5.setCell hB _) _⟩ ?_
  rintro w6 ⟨hk6, hb6⟩
  clear hc hf
  have hc : ∀ i, w6.cell? ⟨g, i, none⟩ = #[u64 (rl (a + b) 32 + (rl d 16 ^^^ (c + d))), u64 (rl b 13 ^^^ (a + b)), u64 (c + d), u64 (rl (rl d 16 ^^^ (c + d)) 21 ^^^ (rl (a + b) 32 + (rl d 16 ^^^ (c + d))))][i]? := hk6.cell
  have hf := hk6.frozen
  have HK6 := Lib.hid hk6
  clear hk6
  refine quiet_tail 11 (by kernel_rfl) (by kernel_rfl) ?_
  simp only [List.take_succ_cons, List.take_zero, List.drop_succ_cons, List.drop_zero]
  repeat (go_big_quiet_step (fail))
  refine wpQuiet_nil ?_
  rintro _ ⟨nq, rfl⟩
  go_wp2
  refine wp_abst (fun w' => Blk w' g 66 (S4.mk (rl (a + b) 32 + (rl d 16 ^^^ (c + d))) (rl b 13 ^^^ (a + b)) ((c + d) + (rl b 13 ^^^ (a + b))) (rl (rl d 16 ^^^ (c + d)) 21 ^^^ (rl (a + b) 32 + (rl d 16 ^^^ (c + d))))).cells ∧ Below B w0 w') ⟨(HK6.out.set 2 _).drewN _, below_drewN (hb6.setCell hB _) _⟩ ?_
  rintro w7 ⟨hk7, hb7⟩
  clear hc hf
  have hc : ∀ i, w7.cell? ⟨g, i, none⟩ = #[u64 (rl (a + b) 32 + (rl d 16 ^^^ (c + d))), u64 (rl b 13 ^^^ (a + b)), u64 ((c + d) + (rl b 13 ^^^ (a + b))), u64 (rl (rl d 16 ^^^ (c + d)) 21 ^^^ (rl (a + b) 32 + (rl d 16 ^^^ (c + d))))][i]? := hk7.cell
  have hf := hk7.frozen
  have HK7 := Lib.hid hk7
  clear hk7
  refine quiet_tail 13 (by kernel_rfl) (by kernel_rfl) ?_
  simp only [List.take_succ_cons, List.take_zero, List.drop_succ_cons, List.drop_zero]
  repeat (go_big_quiet_step (first | exact Calls.quiet_of (left_any _ 17 _ (by decide) (by decide)) | exact quiet_add (left_any _ 17 _ (by decide) (by decide))))
  refine wpQuiet_nil ?_
  rintro _ ⟨nq, rfl⟩
  go_wp2_with (go_at_call 35; refine (left_any _ _ _ (by decide) (by decide)).mono ?_; rintro e w1 ⟨rfl, nd, hw1⟩; subst hw1)
  go_end0
  exact ⟨rfl, (((HK7.out.set 1 _).set 2 _).drewN _), below_drewN ((hb7.setCell hB _).setCell hB _) _⟩

theorem refRound_cells (s : S4) (g : Nat) (w : World) (a b c d : BitVec 64) (hk : Blk w g 66 #[u64 a, u64 b, u64 c, u64 d]) (h : s = ⟨a, b, c, d⟩) (B : Nat) (w0 : World) (hb : Below B w0 w) (hB : B ≤ g) :
    Calls Try.prog 33 #[.pointer (some ⟨g, 0, none⟩)] w fun e w' => e = .returned (.tuple #[]) ∧ Blk w' g 66 s.round.cells ∧ Below B w0 w' := by
  subst h; exact refRound_any ⟨a, b, c, d⟩ g w hk B w0 hb hB

set_option maxRecDepth 100000 in
set_option maxHeartbeats 1000000 in
theorem refTake_any (s : S4) (m : BitVec 64) (g : Nat) (w : World) (hk : Blk w g 66 s.cells) (B : Nat) (w0 : World) (hb : Below B w0 w) (hB : B ≤ g) :
    Calls Try.prog 32 #[.pointer (some ⟨g, 0, none⟩), u64 m] w fun e w' => e = .returned (.tuple #[]) ∧ Blk w' g 66 (s.take m).cells ∧ Below B w0 w' := by
  obtain ⟨a, b, c, d⟩ := s
  have hc : ∀ i, w.cell? ⟨g, i, none⟩ = #[u64 a, u64 b, u64 c, u64 d][i]? := hk.cell
  have hf := hk.frozen
  have HK := Lib.hid hk
  clear hk
  go_enter Try.func32, Try.ntmps32
  go_wp2_with fail
  refine (refRound_cells ⟨a, b, c, d ^^^ m⟩ g _ _ _ _ _ (HK.out.set 3 _) rfl B w0 (hb.setCell hB _) hB).mono ?_
  rintro e w1 ⟨rfl, hk1, hb1⟩
  clear hc hf
  go_wp2_with fail
  refine (refRound_any _ g _ hk1 B w0 hb1 hB).mono ?_
  rintro e w2 ⟨rfl, hk2, hb2⟩
  clear hk1 hb1
  obtain ⟨s2, hs2⟩ : ∃ s2 : S4, s2 = (S4.mk a b c (d ^^^ m)).round.round := ⟨_, rfl⟩
  rw [← hs2] at hk2
  have HS := Lib.hid hs2
  clear hs2
  obtain ⟨a2, b2, c2, d2⟩ := s2
  have hc : ∀ i, w2.cell? ⟨g, i, none⟩ = #[u64 a2, u64 b2, u64 c2, u64 d2][i]? := hk2.cell
  have hf := hk2.frozen
  have HK2 := Lib.hid hk2
  clear hk2
  go_wp2
  go_end0
  refine ⟨rfl, ?_, hb2.setCell hB _⟩
  have := HK2.out.set 0 (u64 (a2 ^^^ m))
  simp only [S4.take, ← HS.out]
  exact this
end Go.Proofs.Ytlopmnepodbefaa
