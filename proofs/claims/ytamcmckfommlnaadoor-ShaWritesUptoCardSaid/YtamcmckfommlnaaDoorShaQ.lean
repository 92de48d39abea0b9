/- sporranlaw01.ShaNobody: the walk. -/
import Derived.Test.YtamcmckfommlnaaDoorShaO
namespace Go.Proofs.YtamcmckfommlnaaDoor
open Go.RowKit

theorem built_noHs : Tryd.prog.built 35 [] = some hsZ.toArray := by kernel_rfl
/-- a struct or an array built, its guard met -/
theorem wp_buildG {P : Program} {ops : Array Oper} {rest : List Oper} {o : Oper} {a : Act} {w : World} {Q : Exit → Act → World → Prop} (hw : Region.wanted o (yielded ops a.tmps) = true) (t : TypeId) (parts : Array (Nat × Operand)) (ho : o.op = .build t parts) (vals : List (Nat × Value)) (hv : parts.toList.map (fun x => (x.1, a.eval x.2)) = vals) (cells : Array Value)
    (hf : P.built t vals = some cells) (h : wpList P ops Q rest (a.put o.dst (.agg cells)) w) : wpList P ops Q (o :: rest) a w := by
  subst hv
  replace hf : P.built t (parts.map fun (i, x) => (i, a.eval x)).toList = some cells := by rw [Array.toList_map]; exact hf
  unfold wpList
  rw [if_pos hw]
  refine .inl ?_
  unfold Oper.wp execOp
  simp only [ho, Sem.run_bind, run_build w t _ cells hf, Result.andThen_ok]
  exact h

theorem NoHasher.below {w w' : World} {H B : Nat} (h : NoHasher w H) (hb : Below B w w') (hB : H < B) : NoHasher w' H := Blk.below h hb hB

set_option maxRecDepth 100000 in
set_option maxHeartbeats 4000000 in
theorem shaNobody_walk (p : Option Addr) (n c : Nat) (bs : List (BitVec 8)) (w : World) (hK : Laid w) (hn : bs.length = n) (hl : n ≤ c) (hcb : c ≤ 140737488351232) (hr : Row8 w p bs) (_hp : p = none → c = 0) :
    Calls Tryd.prog 4 #[.slice p n c] w fun e w' => e = .returned (.bool true) ∧ Below w.heap.size w w' := by
  have HN := Lib.hid hn
  have HK := Lib.hid hK
  have hKs := hK.size
  clear hn hK
  have hbt := built_noHs
  obtain ⟨Z, hZ⟩ : ∃ x, x = hsZ.toArray := ⟨_, rfl⟩
  rw [← hZ] at hbt
  have HBT := Lib.hid hbt
  have HZ := Lib.hid hZ
  have hbt2 := built_no
  have sm0 := hash_same (noughts 32) (noughts_len _)
  have sm1 := hash_same (sha bs) (sha_len _)
  obtain ⟨Y, hY⟩ : ∃ x, x = hCells (noughts 32) := ⟨_, rfl⟩
  obtain ⟨X, hX⟩ : ∃ x, x = hCells (sha bs) := ⟨_, rfl⟩
  rw [← hY] at hbt2 sm0
  rw [← hX] at sm1
  have HBT2 := Lib.hid hbt2
  have HY := Lib.hid hY
  have HX := Lib.hid hX
  clear hZ hY hX hbt hbt2
  go_enter Tryd.func4, Tryd.ntmps4
  go_wp2_with (with_reducible refine wp_build (o := ⟨some 5, _, _, _, _, _⟩) ?_ 35 #[] ?_ [] ?_ Z HBT.out ?_
               · rfl
               · rfl
               · rfl)
  have hA0 : NoHasher ((w.alloc (.cells Z 35)).alloc (.cells #[.pointer none, .pointer (some ⟨w.heap.size, 0, none⟩)] 28)) w.heap.size := by
    unfold NoHasher; rw [← HZ.out]; exact (Blk.new w _ _).alloc _
  have hB0 : Blk ((w.alloc (.cells Z 35)).alloc (.cells #[.pointer none, .pointer (some ⟨w.heap.size, 0, none⟩)] 28)) (w.heap.size + 1) 28 #[.pointer none, .pointer (some ⟨w.heap.size, 0, none⟩)] := Blk.new2 w _ _ _
  have hb0 : Below w.heap.size w ((w.alloc (.cells Z 35)).alloc (.cells #[.pointer none, .pointer (some ⟨w.heap.size, 0, none⟩)] 28)) := ((Below.refl _ _).alloc (Nat.le_refl _) _).alloc (by simp) _
  obtain ⟨w0, hw0⟩ : ∃ x, x = ((w.alloc (.cells Z 35)).alloc (.cells #[.pointer none, .pointer (some ⟨w.heap.size, 0, none⟩)] 28)) := ⟨_, rfl⟩
  rw [← hw0] at hA0 hB0 hb0 ⊢
  have HA0 := Lib.hid hA0
  have HB0 := Lib.hid hB0
  clear hw0 hA0 hB0
  go_loopw [9] (fun i wr => ∃ k : Nat, k ≤ 2 ∧ i = .int .i64 k ∧ Hid (NoHasher wr w.heap.size) ∧ Hid (Blk wr (w.heap.size + 1) 28 #[.pointer none, .pointer (some ⟨w.heap.size, 0, none⟩)]) ∧ Below w.heap.size w wr) (fun i _ => 2 - (intOf i).toNat)
  case atStart => exact ⟨0, by omega, rfl, HA0, HB0, hb0⟩
  case round =>
    obtain ⟨k, hk, rfl, hA1, hB1, hb1⟩ := hrel
    clear HA0 HB0 hb0
    have hlt1 := hB1.out.lt
    rcases (by omega : k = 0 ∨ k = 1 ∨ k = 2) with rfl | rfl | rfl
    · have cc : wr.cell? ⟨w.heap.size + 1, 0, none⟩ = some (.pointer none) := by rw [hB1.out.cell]; rfl
      go_wp2_with fail
      refine (write_nil _ wr).mono ?_
      rintro e w2 ⟨rfl, hw2⟩
      replace hw2 := hw2.symm
      subst hw2
      clear cc
      go_wp2_with fail
      refine (hsum_nil wr).mono ?_
      rw [← HY.out]
      rintro e w2 ⟨rfl, hb2⟩
      go_wp2_with (refine wp_buildG (o := ⟨some 20, _, _, _, _, _⟩) rfl 25 #[] rfl [] rfl Y.toArray HBT2.out ?_)
      go_roundw
      case rel => exact ⟨1, by omega, rfl, Lib.hid (hA1.out.below hb2 (by omega)), Lib.hid (hB1.out.below hb2 hlt1), hb1.trans (hb2.mono hb1.size)⟩
      case measure => simp [intOf]
    · have cc : wr.cell? ⟨w.heap.size + 1, 1, none⟩ = some (.pointer (some ⟨w.heap.size, 0, none⟩)) := by rw [hB1.out.cell]; rfl
      go_wp2_with fail
      refine (write_none w.heap.size _ wr hA1.out).mono ?_
      rintro e w2 ⟨rfl, hw2⟩
      replace hw2 := hw2.symm
      subst hw2
      clear cc
      go_wp2_with fail
      refine (hsum_none w.heap.size wr hA1.out).mono ?_
      rw [← HY.out]
      rintro e w2 ⟨rfl, hb2⟩
      go_wp2_with (refine wp_buildG (o := ⟨some 20, _, _, _, _, _⟩) rfl 25 #[] rfl [] rfl Y.toArray HBT2.out ?_)
      go_roundw
      case rel => exact ⟨2, by omega, rfl, Lib.hid (hA1.out.below hb2 (by omega)), Lib.hid (hB1.out.below hb2 hlt1), hb1.trans (hb2.mono hb1.size)⟩
      case measure => simp [intOf]
    · have hK1 := HK.out.below hb1 hKs
      have hr1 := hr.below hb1 (Nat.le_refl _)
      go_wp2_with fail
      refine (shaSum_any p n c bs _ hK1 hr1 HN.out hl (by omega) (by omega)).mono ?_
      rw [← HX.out]
      rintro e w2 ⟨rfl, hb2⟩
      have hbw2 := hb1.trans (hb2.mono hb1.size)
      have hr2 := hr.below hbw2 (Nat.le_refl _)
      clear hK1 hr1 hb2
      go_wp2_with fail
      refine (refSum_h p n c bs _ hr2 HN.out (by omega)).mono ?_
      rw [← HX.out]
      rintro e w3 ⟨rfl, hb3⟩
      have hbw3 := hbw2.trans (hb3.mono hbw2.size)
      go_wp2
      go_ret
      exact ⟨rfl, hbw3⟩
end Go.Proofs.YtamcmckfommlnaaDoor
