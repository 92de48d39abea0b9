/- sporranlaw20.SessionLate: the walk.  -/
import Derived.Test.YtjbijcjcejfpcaaGreatDoorLSesL
namespace Go.Proofs.YtjbijcjcejfpcaaGreatDoor
open Go Go.RowKit
set_option linter.unusedVariables false
def dC (p : Option Addr) (n c : Nat) : List Value := msgCells (.int .i64 11) (u32 0#32) (u64 0#64) noHash noHash (.slice p n c) (.slice none 0 0) (.slice none 0 0) ZBlk
theorem built_d (p : Option Addr) (n c : Nat) : Tryz.prog.built 41 [(0, .int .i64 11), (5, .slice p n c)] = some (dC p n c).toArray := by kernel_rfl
theorem dC_msg (w : World) (b : Nat) (id : Bs) (hid : id.length = 32) (hb : Blk w b 32 (hCells id).toArray) : MsgC w (tD id) (dC (some ⟨b, 0, none⟩) 1 1) := by
  refine ⟨.slice (some ⟨b, 0, none⟩) 1 1, .slice none 0 0, .slice none 0 0, ZBlk, rfl, noHash_len, noHash_len, ⟨_, _, _, rfl, rfl, Nat.le_refl _, by unfold maxLen; omega, fun _ => ⟨b, 0, rfl, hb.lt, fun i x hx => ?_⟩, fun h => by cases h⟩, (RowO.nil HdrE 36 68 0 w).e (fun _ _ h => h), (Own8.nil w 0).sl, (show BlkO 0 w noBlk ZBlk from ⟨.slice none 0 0, rfl, noHdr_ok, RowO.nil _ _ _ _ _⟩).c⟩
  cases i with
  | zero =>
    cases hx
    refine ⟨hCells id, ⟨rfl, hid⟩, fun j v hj => ?_⟩
    show w.cell? ⟨b, 0 + 0 * 32 + j, none⟩ = some v
    rw [show 0 + 0 * 32 + j = j by omega, hb.cell, List.getElem?_toArray]
    exact hj
  | succ i => cases hx
theorem hash_infoL : (Tryz.prog.info? 32).map (fun i => (i.zero, i.size, i.bytes)) = some (some (.agg (hCells (nulls 32)).toArray), 32, 32) := by kernel_rfl
theorem cell_fut {w w' : World} {p : Addr} {v : Value} (h : w.cell? p = some v) (hb : Below w.heap.size w w') : w'.cell? p = some v := by
  refine (hb.cell (p := p) ?_).trans h
  by_cases hlt : p.block < w.heap.size
  · exact hlt
  · exfalso
    simp only [World.cell?, Array.getElem?_eq_none (Nat.le_of_not_lt hlt)] at h
    cases h
set_option maxRecDepth 100000 in
set_option maxHeartbeats 1000000 in
theorem sessionLate_walk (now gone : Int) (id : Bs) (W : World) (hK : Laid W) (n0 : -9223372036854775808 ≤ now) (n1 : now ≤ 9223372036854775807) (g0 : -9223372036854775808 ≤ gone) (g1 : gone ≤ 9223372036854775807) (hid : id.length = 32) :
    Calls Tryz.prog 5 #[.int .i64 now, .int .i64 gone, .agg (hCells id).toArray] W fun e w' => e = .returned (.bool true) ∧ Below W.heap.size W w' := by
  have HK := Lib.hid hK
  have hKs := hK.size
  have HID := Lib.hid hid
  obtain ⟨zh, hzh⟩ : ∃ z, z = W.heap.size := ⟨_, rfl⟩
  obtain ⟨W1, hW1⟩ : ∃ V, V = W.alloc (.cells (hCells id).toArray 32) := ⟨_, rfl⟩
  have hb1 : Below W.heap.size W W1 := by rw [hW1]; exact below_new W _
  have hB1 : Blk W1 zh 32 (hCells id).toArray := by rw [hW1, hzh]; exact Blk.new W _ _
  have HG := Lib.hid (greeted_any W1 (hK.below hb1 hKs))
  have HB1 := Lib.hid hB1
  have HW1 := Lib.hid hb1
  obtain ⟨U, hU⟩ : ∃ U, U = IntKind.u64.wrap now := ⟨_, rfl⟩
  have hU0 : 0 ≤ U := by rw [hU]; simp [IntKind.wrap, IntKind.bits, IntKind.signed]; omega
  obtain ⟨T, hT⟩ : ∃ T, T = U.tmod 1099511627776 := ⟨_, rfl⟩
  have hT' : 0 ≤ T ∧ T < 1099511627776 := by rw [hT, Int.tmod_eq_emod_of_nonneg hU0]; exact ⟨Int.emod_nonneg _ (by omega), Int.emod_lt_of_pos _ (by omega)⟩
  obtain ⟨V, hV⟩ : ∃ V, V = IntKind.u64.wrap gone := ⟨_, rfl⟩
  have hV0 : 0 ≤ V := by rw [hV]; simp [IntKind.wrap, IntKind.bits, IntKind.signed]; omega
  obtain ⟨G, hG⟩ : ∃ G, G = V.tmod 60 := ⟨_, rfl⟩
  have hG' : 0 ≤ G ∧ G < 60 := by rw [hG, Int.tmod_eq_emod_of_nonneg hV0]; exact ⟨Int.emod_nonneg _ (by omega), Int.emod_lt_of_pos _ (by omega)⟩
  rw [hU] at hT
  rw [hV] at hG
  clear hU hV hU0 hV0 hK hb1 hB1 hid U V
  go_enter Tryz.func5, Tryz.ntmps5
  go_upto_region 1 with fail
  rw [← hW1, ← hzh]
  clear hW1 hzh
  go_wp2_with fail
  refine HG.out.mono ?_
  rintro e w1 ⟨g, rv, rfl, hr, hb⟩
  have HS := Lib.hid hr.1
  have hr2 := hr.2.2
  have HB2 := Lib.hid (below_fut HW1.out hb (Nat.le_refl _))
  have HH := Lib.hid (HB1.out.fut hb)
  have hW1s := HW1.out.size
  clear hr hb HG HB1
  go_upto_region 5 with fail
  rw [← hT, ← hG]
  clear hT hG
  have lh := blk_range HH.out
  obtain ⟨W2, hW2⟩ : ∃ V, V = w1.alloc (.cells (hCells id).toArray 32) := ⟨_, rfl⟩
  have hb2 : Below w1.heap.size w1 W2 := by rw [hW2]; exact below_new w1 _
  have hBn : Blk W2 w1.heap.size 32 (hCells id).toArray := by rw [hW2]; exact Blk.new w1 _ _
  have HBW2 := Lib.hid (below_fut HB2.out hb2 (Nat.le_refl _))
  have hbt := built_d (some ⟨w1.heap.size, 0, none⟩) 1 1
  have HAD := Lib.hid (ask_data g rv 5#64 1 id (dC (some ⟨w1.heap.size, 0, none⟩) 1 1) T W2 (HK.out.below HBW2.out hKs) HID.out (dC_msg W2 _ id HID.out hBn) (HS.out.fut hb2))
  obtain ⟨MA, hMA⟩ : ∃ MA, MA = (dC (some ⟨w1.heap.size, 0, none⟩) 1 1).toArray := ⟨_, rfl⟩
  rw [← hMA] at hbt HAD
  obtain ⟨OB, hOB⟩ : ∃ OB, OB = frmOut (cmdB 11) (payP (tD id)).1 := ⟨_, rfl⟩
  rw [← hOB] at HAD
  have hol : 24 ≤ OB.length := by rw [hOB, frmOut_len _ (by decide)]; omega
  have HOL := Lib.hid hol
  clear hb2 hBn hMA hOB hol
  go_wp2_with (first
    | (with_reducible refine wpList_load_mid (op := ⟨some 25, _, _, _, _, _⟩) ?_ 32 (.tmp 5) ?_ (zh) (0) ?_ ((hCells (id))) _ (lh) Tryz.underlying32 ?_ ?_ ?_
       · rfl
       · rfl
       · rfl
       · rfl
       · exact (hCells_info (HID.out)))
    | (with_reducible refine wp_lit (o := ⟨some 26, _, _, _, _, _⟩) ?_ 33 32 1 #[(0, .tmp 25)] ?_ [.agg (hCells id).toArray] ?_ 32 32 _ Tryz.underlying33 hash_infoL ?_ ?_ ?_ ?_ ?_ ?_
       · rfl
       · rfl
       · rfl
       · omega
       · exact (fun v hv => by rw [List.mem_singleton.1 hv]; exact hCells_size HID.out)
       · rfl
       · omega
       · omega
       simp only [List.flatMap_cons, List.flatMap_nil, List.append_nil, Value.cells])
    | (with_reducible refine wp_build (o := ⟨some 27, _, _, _, _, _⟩) ?_ 41 #[(0, .const (.int .i64 11)), (5, .tmp 26)] ?_ [(0, .int .i64 11), (5, .slice (some ⟨w1.heap.size, 0, none⟩) 1 1)] ?_ MA hbt ?_
       · rfl
       · rfl
       · rfl))
  rw [← hW2]
  clear hW2
  refine HAD.out.mono ?_
  rintro e w3 ⟨v3, rq, rfl, ho3, hrq3, hs3, hc3, hst3⟩
  obtain ⟨q3, n3, c3, rfl, hn3, _⟩ := ho3.open
  have hn3' : 0 < (n3 : Int) := by have h1 := hn3.out; have h2 := HOL.out; omega
  have HB3 := Lib.hid (HBW2.out.trans (hst3.below HBW2.out.size (fun k hk => by have : k = g := hk; have := hr2.2; omega)))
  have HS3 := Lib.hid hs3
  have HC3 := Lib.hid hc3
  have hbt5 := built_g 5
  have hab := ask_busy g rv 5#64 1 ⟨rq, 0, none⟩ (msgK 5 0#32 0#64) (.int .i64 T) w3 hs3
  obtain ⟨M5, hM5⟩ : ∃ M, M = (msgK 5 0#32 0#64).toArray := ⟨_, rfl⟩
  rw [← hM5] at hbt5 hab
  have HAB := Lib.hid hab
  clear ho3 hrq3 hs3 hc3 hst3 hM5 hab HAD hbt lh HH HS HBW2 hn3
  go_wp2_with ((with_reducible refine wp_build (o := ⟨some 34, _, _, _, _, _⟩) ?_ 41 #[(0, .const (.int .i64 5))] ?_ [(0, .int .i64 5)] ?_ M5 hbt5 ?_
                · rfl
                · rfl
                · rfl))
  refine HAB.out.mono ?_
  rintro e w4 ⟨rfl, hb4⟩
  have HB4 := Lib.hid (below_fut HB3.out hb4 (Nat.le_refl _))
  have hs4 : SesB w4 g 5#64 rv 1 2 0 true true (some ⟨rq, 0, none⟩) := HS3.out.fut hb4
  have hc4 := cell_fut HC3.out hb4
  have hl1 := late_any g rv 5#64 1 rq T (T + G) w4 hs4 hc4 ⟨hT'.1, by omega⟩ (by omega)
  have hl2 := late_any g rv 5#64 1 rq T (T - 1) w4 hs4 hc4 ⟨hT'.1, by omega⟩ (by omega)
  rw [decide_eq_true (show T - 1 < T by omega)] at hl2
  rw [decide_eq_false (show ¬ T + G < T by omega), show T + G - T = G by omega] at hl1
  replace hl2 : Calls Tryz.prog 15 #[.pointer (some ⟨g, 0, none⟩), .int .i64 (T - 1)] w4 fun e w' => e = .returned (.bool false) ∧ w' = w4 := hl2
  have HL1 := Lib.hid hl1
  have HL2 := Lib.hid hl2
  clear hb4 hs4 hc4 hl1 hl2 HAB HB3 HS3 HC3 hbt5
  by_cases hg20 : 20 ≤ G
  · have hl1 := HL1.out
    rw [decide_eq_true hg20] at hl1
    replace hl1 : Calls Tryz.prog 15 #[.pointer (some ⟨g, 0, none⟩), .int .i64 (T + G)] w4 fun e w' => e = .returned (.bool true) ∧ w' = w4 := hl1
    clear HL1
    have HL1 := Lib.hid hl1
    clear hl1
    go_wp2_with fail
    refine HL1.out.mono ?_
    rintro e w5 ⟨rfl, hw⟩
    replace hw := hw.symm
    subst hw
    go_wp2_with fail
    refine HL2.out.mono ?_
    rintro e w5 ⟨rfl, hw⟩
    replace hw := hw.symm
    subst hw
    go_wp2_with fail
    go_ret
    exact ⟨rfl, HB4.out⟩
  · have hl1 := HL1.out
    rw [decide_eq_false hg20] at hl1
    replace hl1 : Calls Tryz.prog 15 #[.pointer (some ⟨g, 0, none⟩), .int .i64 (T + G)] w4 fun e w' => e = .returned (.bool false) ∧ w' = w4 := hl1
    clear HL1
    have HL1 := Lib.hid hl1
    clear hl1
    go_wp2_with fail
    refine HL1.out.mono ?_
    rintro e w5 ⟨rfl, hw⟩
    replace hw := hw.symm
    subst hw
    go_wp2_with fail
    refine HL2.out.mono ?_
    rintro e w5 ⟨rfl, hw⟩
    replace hw := hw.symm
    subst hw
    go_wp2_with fail
    go_ret
    exact ⟨by show Ending.returned (.bool (!decide (20 ≤ G))) = _; rw [decide_eq_false (show ¬ (20 ≤ G) by omega)]; rfl, HB4.out⟩
end Go.Proofs.YtjbijcjcejfpcaaGreatDoor
