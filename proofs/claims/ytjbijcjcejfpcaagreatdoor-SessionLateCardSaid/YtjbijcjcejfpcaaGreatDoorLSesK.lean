/- A session that asked: Ask once more, Late; what a request's block holds.  -/
import Derived.Test.YtjbijcjcejfpcaaGreatDoorLSesG
namespace Go.Proofs.YtjbijcjcejfpcaaGreatDoor
open Go Go.RowKit
set_option linter.unusedVariables false
theorem fn_vals (l : List Value) (n : Nat) (h : l.length = n) : ∃ x : Fin n → Value, l = List.ofFn x := ⟨fun i => l[i.val]'(by rw [h]; exact i.isLt), by subst h; simp⟩
set_option maxRecDepth 100000 in
theorem built_req (cs : List Value) (h : cs.length = 139) (now : Int) : Tryz.prog.built 97 [(0, .agg cs.toArray), (1, .int .i64 now)] = some (cs ++ [Value.int .i64 now]).toArray := by
  obtain ⟨x, rfl⟩ := fn_vals cs 139 h
  kernel_rfl
set_option maxRecDepth 100000 in
set_option maxHeartbeats 4000000 in
theorem ask_busy (g rv : Nat) (no : BitVec 64) (dn : Int) (rq : Addr) (cs : List Value) (now : Value) (w : World) (h : SesB w g no rv dn 2 0 true true (some rq)) :
    Calls Tryz.prog 14 #[.pointer (some ⟨g, 0, none⟩), .agg cs.toArray, now] w fun e w' => e = .returned (.tuple #[.slice none 0 0, .int .i64 200]) ∧ Below w.heap.size w w' := by
  obtain ⟨W1, hW1⟩ : ∃ V, V = w.alloc (.cells cs.toArray 41) := ⟨_, rfl⟩
  have hb1 : Below w.heap.size w W1 := by rw [hW1]; exact below_new w _
  have h1 : SesB W1 g no rv dn 2 0 true true (some rq) := h.fut hb1
  have HN := Lib.hid (none_any g no rv dn 2 0 true true (some rq) W1 h1)
  have HBL := Lib.hid (bool_load ⟨g, 6, none⟩ 0 W1 h1.l.c6)
  have HRY := Lib.hid (ready_any g no rv dn 2 0 true true (some rq) W1 h1)
  have HB1 := Lib.hid hb1
  have c9 := h1.l.c9
  clear h h1 hb1
  go_enter Tryz.func14, Tryz.ntmps14
  go_upto_region 1 with fail
  rw [← hW1]
  clear hW1
  go_wp2_with fail
  refine HN.out.mono ?_
  rintro e w0 ⟨rfl, hw⟩
  replace hw := hw.symm
  subst hw
  go_wp2_with fail
  refine HBL.out.mono ?_
  rintro e w0 ⟨rfl, hw⟩
  replace hw := hw.symm
  subst hw
  go_wp2_with fail
  refine HRY.out.mono ?_
  rintro e w0 ⟨rfl, hw⟩
  replace hw := hw.symm
  subst hw
  go_wp2_with fail
  go_ret2
  exact ⟨rfl, HB1.out⟩
set_option maxRecDepth 100000 in
set_option maxHeartbeats 4000000 in
theorem late_any (g rv : Nat) (no : BitVec 64) (dn : Int) (rq : Nat) (since now : Int) (w : World) (h : SesB w g no rv dn 2 0 true true (some ⟨rq, 0, none⟩)) (hs : w.cell? ⟨rq, 139, none⟩ = some (.int .i64 since)) (hs0 : 0 ≤ since ∧ since ≤ 1099511627776) (hn : now ≤ 1099511627900) :
    Calls Tryz.prog 15 #[.pointer (some ⟨g, 0, none⟩), .int .i64 now] w fun e w' => e = .returned (.bool (!decide (now < since) && decide (20 ≤ now - since))) ∧ w' = w := by
  have HN := Lib.hid (none_any g no rv dn 2 0 true true (some ⟨rq, 0, none⟩) w h)
  have c9 := h.l.c9
  obtain ⟨r, hr⟩ : ∃ r, r = (!decide (now < since) && decide (20 ≤ now - since)) := ⟨_, rfl⟩
  rw [← hr]
  have HR := Lib.hid hr
  clear h hr
  go_enter Tryz.func15, Tryz.ntmps15
  go_wp2_with fail
  refine HN.out.mono ?_
  rintro e w0 ⟨rfl, hw⟩
  replace hw := hw.symm
  subst hw
  by_cases hlt : now < since
  · have HE : Hid (r = false) := Lib.hid (by rw [HR.out, decide_eq_true hlt]; rfl)
    go_wp2_with fail
    go_ret
    rw [HE.out]
    exact ⟨rfl, rfl⟩
  · have HE : Hid (r = decide (20 ≤ now - since)) := Lib.hid (by rw [HR.out, decide_eq_false hlt]; rfl)
    have h0 : 0 ≤ now := by omega
    go_wp2_with fail
    go_ret
    rw [HE.out]
    exact ⟨rfl, rfl⟩
end Go.Proofs.YtjbijcjcejfpcaaGreatDoor
