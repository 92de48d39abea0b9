/- frame.Reader's early ends, Left, and the law FrameNobody: the walks. -/
import Derived.Test.YtikjhnbehihbjaaDoorFrmA
namespace Go.Proofs.YtikjhnbehihbjaaDoor
open Go.RowKit

set_option maxRecDepth 100000 in
set_option maxHeartbeats 2000000 in
theorem feed_none (v : Value) (w : World) : Calls Tryd.prog 14 #[.pointer none, v] w fun e w' => e = .returned (.tuple #[.slice none 0 0, .int .i64 2]) ∧ w' = w := by
  go_enter Tryd.func14, Tryd.ntmps14
  go_wp2
  go_ret2
  exact ⟨rfl, rfl⟩
set_option maxRecDepth 100000 in
set_option maxHeartbeats 2000000 in
theorem feed_unmade (v : Value) (w : World) (g : Nat) (s x : Value) (hB : Blk w g 48 #[s, .bool false, x]) : Calls Tryd.prog 14 #[.pointer (some ⟨g, 0, none⟩), v] w fun e w' => e = .returned (.tuple #[.slice none 0 0, .int .i64 2]) ∧ w' = w := by
  have c1 := hB.cell 1
  simp only [List.getElem?_toArray, List.getElem?_cons_zero, List.getElem?_cons_succ] at c1
  go_enter Tryd.func14, Tryd.ntmps14
  go_wp2
  go_ret2
  exact ⟨rfl, rfl⟩
set_option maxRecDepth 100000 in
set_option maxHeartbeats 2000000 in
theorem left_none (w : World) : Calls Tryd.prog 15 #[.pointer none] w fun e w' => e = .returned (.int .i64 0) ∧ w' = w := by
  go_enter Tryd.func15, Tryd.ntmps15
  go_wp2
  go_ret
  exact ⟨rfl, rfl⟩
set_option maxRecDepth 100000 in
set_option maxHeartbeats 2000000 in
theorem left_any (w : World) (g : Nat) (p : Option Addr) (n c : Nat) (m x : Value) (hB : Blk w g 48 #[.slice p n c, m, x]) : Calls Tryd.prog 15 #[.pointer (some ⟨g, 0, none⟩)] w fun e w' => e = .returned (.int .i64 (n : Int)) ∧ w' = w := by
  have c0 := hB.cell 0
  simp only [List.getElem?_toArray, List.getElem?_cons_zero] at c0
  go_enter Tryd.func15, Tryd.ntmps15
  go_wp2
  go_ret
  exact ⟨rfl, rfl⟩
theorem built_reader0 : Tryd.prog.built 48 [] = some #[.slice none 0 0, .bool false, .int .i64 0] := by kernel_rfl

set_option maxRecDepth 100000 in
set_option maxHeartbeats 4000000 in
theorem frameNobody_walk (p : Option Addr) (n c : Nat) (bs : List (BitVec 8)) (w : World) (hK : Laid w) (_ : bs.length = n) (_ : n ≤ c) (_ : c ≤ 140737488351232) (_ : Row8 w p bs) (_ : p = none → c = 0) :
    Calls Tryd.prog 6 #[.slice p n c] w fun e w' => e = .returned (.bool true) ∧ Below w.heap.size w w' := by
  have HK := Lib.hid hK
  have hKs := hK.size
  have hbt := built_reader0
  clear hK
  go_enter Tryd.func6, Tryd.ntmps6
  go_wp2_with ((with_reducible refine wp_build (o := ⟨some 7, _, _, _, _, _⟩) ?_ 48 #[] ?_ [] ?_ #[.slice none 0 0, .bool false, .int .i64 0] hbt ?_
                · rfl
                · rfl
                · rfl))
  have hr0 := Blk.new w 48 #[.slice none 0 0, .bool false, .int .i64 0]
  have hb1 := below_new w (.cells #[.slice none 0 0, .bool false, .int .i64 0] 48)
  obtain ⟨wa, hwa⟩ : ∃ x, x = w.alloc (.cells #[.slice none 0 0, .bool false, .int .i64 0] 48) := ⟨_, rfl⟩
  have hsa : w.heap.size + 1 = wa.heap.size := by rw [hwa, World.size_alloc]
  rw [hsa, ← hwa]
  rw [← hwa] at hr0 hb1
  have HR1 := Lib.hid (hr0.fut (below_new wa (.cells #[.pointer none, .pointer (some ⟨w.heap.size, 0, none⟩)] 32)))
  have HL1 := Lib.hid (Blk.new wa 32 #[.pointer none, .pointer (some ⟨w.heap.size, 0, none⟩)])
  have hb2 := below_fut hb1 (below_new wa (.cells #[.pointer none, .pointer (some ⟨w.heap.size, 0, none⟩)] 32)) (Nat.le_refl _)
  generalize wa.alloc (.cells #[.pointer none, .pointer (some ⟨w.heap.size, 0, none⟩)] 32) = w2 at *
  clear hr0 hb1 hsa hwa
  have c0 := HL1.out.cell 0
  have c1 := HL1.out.cell 1
  simp only [List.getElem?_toArray, List.getElem?_cons_zero, List.getElem?_cons_succ] at c0 c1
  go_loopw [11] (fun i wr => ∃ k : Nat, k ≤ 2 ∧ i = .int .i64 k ∧ wr = w2) (fun i _ => 2 - (intOf i).toNat)
  case atStart => exact ⟨0, by omega, rfl, rfl⟩
  case round =>
    obtain ⟨k, hk, rfl, rfl⟩ := hrel
    rcases (by omega : k = 0 ∨ k = 1 ∨ k = 2) with rfl | rfl | rfl
    · go_wp2_with fail
      refine (feed_none _ _).mono ?_
      rintro e w3 ⟨rfl, hw3⟩
      replace hw3 := hw3.symm
      subst hw3
      go_wp2_with fail
      refine (left_none _).mono ?_
      rintro e w3 ⟨rfl, hw3⟩
      replace hw3 := hw3.symm
      subst hw3
      go_wp2_with fail
      go_roundw
      case rel => exact ⟨1, by omega, rfl, trivial⟩
      case measure => simp [intOf]
    · go_wp2_with fail
      refine (feed_unmade _ _ _ _ _ HR1.out).mono ?_
      rintro e w3 ⟨rfl, hw3⟩
      replace hw3 := hw3.symm
      subst hw3
      go_wp2_with fail
      refine (left_any _ _ _ _ _ _ _ HR1.out).mono ?_
      rintro e w3 ⟨rfl, hw3⟩
      replace hw3 := hw3.symm
      subst hw3
      go_wp2_with fail
      go_roundw
      case rel => exact ⟨2, by omega, rfl, trivial⟩
      case measure => simp [intOf]
    · go_wp2_with fail
      refine (awake09_any _ (HK.out.below hb2 hKs)).mono ?_
      rintro e w5 ⟨rfl, hb5⟩
      have hbw5 := below_fut hb2 hb5 (Nat.le_refl _)
      go_wp2_with fail
      go_ret
      exact ⟨rfl, hbw5⟩
end Go.Proofs.YtikjhnbehihbjaaDoor
