/- SipHash: what the program's and the reference's functions compute, as one function on four words. -/
import Derived.Test.YtlopmnepodbefaaBits
import Derived.Test.YtlopmnepodbefaaProg
import Derived.Test.YtlopmnepodbefaaKit
import Derived.Test.YtlopmnepodbefaaQuiet
namespace Go.Proofs.Ytlopmnepodbefaa
open Go.RowKit
attribute [local go_sem] add64 xor64 or64 shlp64 shrp64 alloc_drewN setCell_drewN

/-- four words -/
structure S4 where
  a : BitVec 64
  b : BitVec 64
  c : BitVec 64
  d : BitVec 64
def rl (x : BitVec 64) (k : Nat) : BitVec 64 := x.rotateLeft k
def S4.round (s : S4) : S4 :=
  { a := rl (s.a + s.b) 32 + (rl s.d 16 ^^^ (s.c + s.d))
    b := rl (rl s.b 13 ^^^ (s.a + s.b)) 17 ^^^ ((s.c + s.d) + (rl s.b 13 ^^^ (s.a + s.b)))
    c := rl ((s.c + s.d) + (rl s.b 13 ^^^ (s.a + s.b))) 32
    d := rl (rl s.d 16 ^^^ (s.c + s.d)) 21 ^^^ (rl (s.a + s.b) 32 + (rl s.d 16 ^^^ (s.c + s.d))) }
def S4.val (s : S4) : Value := .agg #[u64 s.a, u64 s.b, u64 s.c, u64 s.d]

set_option maxRecDepth 100000 in
theorem rotl (x : BitVec 64) (k : Int) (w : World) (h1 : 0 ≤ k) (h2 : k ≤ 63) :
    Calls Try.prog 34 #[u64 x, .int .i64 k] w fun e w' => e = .returned (u64 (rl x k.toNat)) ∧ w' = w := by
  obtain ⟨s, rfl⟩ := Int.eq_ofNat_of_zero_le h1
  have hs2 : s < 64 := by omega
  have h63 : bits BinOp.and IntKind.u64 (s : Int) 63 = (s : Int) := by
    have := u64_and_nat s 63 (by omega) (by decide)
    rw [show ((63 : Nat) : Int) = 63 from rfl] at this
    rw [this, nat_mask6, Nat.mod_eq_of_lt hs2]
  go_enter Try.func34, Try.ntmps34
  go_wp2
  go_ret
  refine ⟨ret_int ?_, rfl⟩
  rw [rol64 _ _ hs2, Int.toNat_natCast]
  rfl

set_option maxRecDepth 100000 in
theorem left_any (x : BitVec 64) (k : Int) (w : World) (h1 : 1 ≤ k) (h2 : k ≤ 63) :
    Calls Try.prog 35 #[u64 x, .int .i64 k] w fun e w' => e = .returned (u64 (rl x k.toNat)) ∧ ∃ n, w' = w.drewN n := by
  obtain ⟨s, rfl⟩ := Int.eq_ofNat_of_zero_le (show 0 ≤ k by omega)
  have hs2 : s < 64 := by omega
  go_enter Try.func35, Try.ntmps35
  go_wp2
  go_quiet (fail)
  go_wp2
  go_ret
  refine ⟨ret_int ?_, _, rfl⟩
  rw [rol64 _ _ hs2, Int.toNat_natCast]
  rfl

set_option maxRecDepth 100000 in
set_option maxHeartbeats 1000000 in
/-- the program's round -/
theorem round_any (s : S4) (w : World) :
    Calls Try.prog 31 #[s.val] w fun e w' => e = .returned s.round.val ∧ Below w.heap.size w w' := by
  obtain ⟨a, b, c, d⟩ := s
  unfold S4.val
  go_enter Try.func31, Try.ntmps31
  go_wp2
  refine quiet_tail 8 (by kernel_rfl) (by kernel_rfl) ?_
  simp only [List.take_succ_cons, List.take_zero, List.drop_succ_cons, List.drop_zero]
  repeat (go_big_quiet_step (first | exact Calls.quiet_of_same (rotl _ 13 _ (by decide) (by decide)) | exact quiet_add_same (rotl _ 13 _ (by decide) (by decide))))
  refine wpQuiet_nil ?_
  rintro _ ⟨nq, rfl⟩
  go_wp2
  refine quiet_tail 8 (by kernel_rfl) (by kernel_rfl) ?_
  simp only [List.take_succ_cons, List.take_zero, List.drop_succ_cons, List.drop_zero]
  repeat (go_big_quiet_step (first | exact Calls.quiet_of_same (rotl _ 16 _ (by decide) (by decide)) | exact quiet_add_same (rotl _ 16 _ (by decide) (by decide))))
  refine wpQuiet_nil ?_
  rintro _ ⟨nq, rfl⟩
  go_wp2
  refine quiet_tail 8 (by kernel_rfl) (by kernel_rfl) ?_
  simp only [List.take_succ_cons, List.take_zero, List.drop_succ_cons, List.drop_zero]
  repeat (go_big_quiet_step (first | exact Calls.quiet_of_same (rotl _ 32 _ (by decide) (by decide)) | exact quiet_add_same (rotl _ 32 _ (by decide) (by decide))))
  refine wpQuiet_nil ?_
  rintro _ ⟨nq, rfl⟩
  go_wp2
  refine quiet_tail 8 (by kernel_rfl) (by kernel_rfl) ?_
  simp only [List.take_succ_cons, List.take_zero, List.drop_succ_cons, List.drop_zero]
  repeat (go_big_quiet_step (first | exact Calls.quiet_of_same (rotl _ 21 _ (by decide) (by decide)) | exact quiet_add_same (rotl _ 21 _ (by decide) (by decide))))
  refine wpQuiet_nil ?_
  rintro _ ⟨nq, rfl⟩
  go_wp2
  refine quiet_tail 8 (by kernel_rfl) (by kernel_rfl) ?_
  simp only [List.take_succ_cons, List.take_zero, List.drop_succ_cons, List.drop_zero]
  repeat (go_big_quiet_step (first | exact Calls.quiet_of_same (rotl _ 17 _ (by decide) (by decide)) | exact quiet_add_same (rotl _ 17 _ (by decide) (by decide))))
  refine wpQuiet_nil ?_
  rintro _ ⟨nq, rfl⟩
  go_wp2_with (go_at_call 34; refine (rotl _ _ _ (by decide) (by decide)).mono ?_; rintro e w1 ⟨rfl, hw1⟩; subst hw1)
  exact bodyPost_ret (v := (S4.round ⟨a, b, c, d⟩).val) (by simp [results, Try.results31, go_sem]; rfl) rfl ⟨rfl, below_drewN (((Below.refl _ _).alloc (Nat.le_refl _) _).alloc (by simp) _) _⟩
end Go.Proofs.Ytlopmnepodbefaa
