/- sporranlaw09: awake, and the law FrameWrites: the walks. -/
import Derived.Test.YtikjhnbehihbjaaDoorFrmR
namespace Go.Proofs.YtikjhnbehihbjaaDoor
open Go.RowKit

/-- "verack" -/
def verack : List (BitVec 8) := [118#8, 101#8, 114#8, 97#8, 99#8, 107#8]
theorem verack_str : strB verack = ⟨#[118, 101, 114, 97, 99, 107]⟩ := by decide +kernel
theorem sha_null : (sha (sha [])).take 4 = [0x5d#8, 0xf6#8, 0xe0#8, 0xe2#8] := by decide +kernel
theorem frmOut_len {cmd : List (BitVec 8)} (pl : List (BitVec 8)) (h : cmd.length ≤ 12) : (frmOut cmd pl).length = 24 + pl.length := by
  unfold frmOut
  simp only [List.length_append, low_len, noughts_len, List.length_take, sha_len]
  omega
theorem frmOut_tail {cmd : List (BitVec 8)} (pl : List (BitVec 8)) (h : cmd.length ≤ 12) : (frmOut cmd pl).drop 20 = (sha (sha pl)).take 4 ++ pl := by
  unfold frmOut
  rw [List.append_assoc, List.drop_left' (by simp only [List.length_append, low_len, noughts_len]; omega)]
theorem frmP_ok {cmd pl : List (BitVec 8)} (h : cmdOk cmd = true) (hl : pl.length ≤ 200000) : frmP cmd pl = (frmOut cmd pl, 0) := by
  unfold frmP
  rw [if_pos h, if_neg (by omega)]
theorem verack_p : frmP verack [] = (frmOut verack [], 0) := frmP_ok (by decide) (by simp)
theorem built_frame (S : ByteArray) : Tryd.prog.built 24 [(0, .string S)] = some #[.string S, .slice none 0 0] := by kernel_rfl

set_option maxRecDepth 100000 in
set_option maxHeartbeats 4000000 in
theorem awake09_any (w : World) (hK : Laid w) : Calls Tryd.prog 12 #[] w fun e w' => e = .returned (.bool true) ∧ Below w.heap.size w w' := by
  have HK := Lib.hid hK
  have hbt := built_frame (strB verack)
  rw [verack_str] at hbt
  clear hK
  go_enter Tryd.func12, Tryd.ntmps12
  go_wp2_with ((with_reducible refine wp_build (o := ⟨some 4, _, _, _, _, _⟩) ?_ 24 #[(0, .const (.string ⟨#[118, 101, 114, 97, 99, 107]⟩))] ?_ [(0, .string ⟨#[118, 101, 114, 97, 99, 107]⟩)] ?_ #[.string ⟨#[118, 101, 114, 97, 99, 107]⟩, .slice none 0 0] hbt ?_
                · rfl
                · rfl
                · rfl))
  have hfe := frmEncode_any verack [] none 0 0 w HK.out (by decide) (Row8.nil _ _) rfl (by omega) (by omega) (fun _ => rfl)
  rw [verack_str, verack_p] at hfe
  refine hfe.mono ?_
  rintro e w1 ⟨v1, rfl, ho1, hb1⟩
  obtain ⟨p1, n1, c1, rfl, hn1, hl1, hm1, hr1⟩ := ho1.open
  have hlen : n1 = 24 := by rw [← hn1.out, frmOut_len _ (by decide)]; rfl
  subst hlen
  have htail := frmOut_tail (cmd := verack) [] (by decide)
  rw [sha_null, List.append_nil] at htail
  have hr2 : Row8 w1 (cutAt p1 c1 20) [0x5d#8, 0xf6#8, 0xe0#8, 0xe2#8] := by rw [← htail]; exact hr1.cut (by rw [hn1.out]; exact hl1)
  clear hfe htail hr1 hn1 ho1 hbt
  have hsl : ∀ W, (Instr.sliceAt 22 (.slice p1 24 c1) (some (.int .i64 20)) none none).run Tryd.prog W = .ok (.slice (cutAt p1 c1 20) 4 (c1 - 20)) W := fun W => slice_from8 W p1 24 c1 20 (by omega)
  go_wp2_with fail
  have hr3 : Row8 (w1.alloc (.cells #[.int .u8 93, .int .u8 246, .int .u8 224, .int .u8 226] 5)) (some ⟨w1.heap.size, 0, none⟩) [0x5d#8, 0xf6#8, 0xe0#8, 0xe2#8] := hCells_row (l := [0x5d#8, 0xf6#8, 0xe0#8, 0xe2#8]) (Blk.new w1 _ _)
  refine (equal_same _ _ 4 _ 4 _ [0x5d#8, 0xf6#8, 0xe0#8, 0xe2#8] _ (hr2.fut (below_new w1 _)) hr3 rfl rfl).mono ?_
  rintro e w2 ⟨rfl, hw2⟩
  have hb2 : Below w.heap.size w w2 := by rw [hw2]; exact below_fut hb1 (below_new w1 _) (Nat.le_refl _)
  clear hw2 hr3 hr2
  go_wp2_with fail
  go_ret
  exact ⟨rfl, hb2⟩

set_option maxRecDepth 100000 in
set_option maxHeartbeats 4000000 in
theorem frameWrites_walk (cmd : List (BitVec 8)) (p : Option Addr) (n c : Nat) (pl : List (BitVec 8)) (w : World) (hK : Laid w) (hcl : cmd.length ≤ 140737488351232) (hn : pl.length = n) (hnc : n ≤ c) (hcm : c ≤ maxLen) (hr : Row8 w p pl) (hp : p = none → c = 0) :
    Calls Tryd.prog 3 #[.agg #[.string (strB cmd), .slice p n c]] w fun e w' => e = .returned (.bool true) ∧ Below w.heap.size w w' := by
  have HN := Lib.hid hn
  have HK := Lib.hid hK
  have HR := Lib.hid hr
  have HP := Lib.hid hp
  have hKs := hK.size
  have hfe := fun W h1 h2 => frmEncode_any cmd pl p n c W h1 (by omega) h2 hn hnc hcm hp
  have hre := fun W h2 => refFrm_any cmd pl p n c W (by omega) h2 hn
  obtain ⟨S, hS⟩ : ∃ S, S = strB cmd := ⟨_, rfl⟩
  obtain ⟨X, hX⟩ : ∃ X, X = frmP cmd pl := ⟨_, rfl⟩
  rw [← hS, ← hX] at hfe hre
  rw [← hS]
  obtain ⟨o, k⟩ := X
  have HFE := Lib.hid hfe
  have HRE := Lib.hid hre
  clear hn hK hr hp hS hX hfe hre
  go_enter Tryd.func3, Tryd.ntmps3
  go_upto_region 1 with fail
  refine wp_abst (fun w' => Hid (Blk w' w.heap.size 24 #[.string S, .slice p n c]) ∧ Below w.heap.size w w') ⟨Lib.hid (Blk.new w _ _), below_new w _⟩ ?_
  rintro w1 ⟨hf1, hb1⟩
  have hi1 : (Tryd.prog.info? 24).map (·.size) = some [Value.string S, .slice p n c].length := by kernel_rfl
  go_wp2_with ((with_reducible refine wpList_load_mid (op := ⟨some 8, _, _, _, _, _⟩) ?_ 24 (.tmp 1) ?_ (w.heap.size) (0) ?_ ([.string S, .slice p n c]) _ (hf1.out.range8) Tryd.underlying24 ?_ ?_ ?_
                · rfl
                · rfl
                · rfl
                · rfl
                · exact (hi1)))
  refine (HFE.out w1 (HK.out.below hb1 hKs) (HR.out.fut hb1)).mono ?_
  rintro e w2 ⟨v2, rfl, ho2, hb2⟩
  have hf2 := Lib.hid (hf1.out.fut hb2)
  clear hf1
  have hbw2 := below_fut hb1 hb2 (Nat.le_refl _)
  clear hb1 hb2
  go_wp2_with ((with_reducible refine wpList_load_mid (op := ⟨some 13, _, _, _, _, _⟩) ?_ 24 (.tmp 1) ?_ (w.heap.size) (0) ?_ ([.string S, .slice p n c]) _ (hf2.out.range8) Tryd.underlying24 ?_ ?_ ?_
                · rfl
                · rfl
                · rfl
                · rfl
                · exact (hi1)))
  refine (HRE.out w2 (HR.out.fut hbw2)).mono ?_
  rintro e w3 ⟨p3, n3, c3, rfl, hn3, hl3, hm3, hr3, hb3⟩
  have hbw3 := below_fut hbw2 hb3 (Nat.le_refl _)
  obtain ⟨p2, n2, c2, rfl, hn2, hl2, hm2, hr2⟩ := (ho2.fut hb3).open
  clear hbw2 hb3 ho2
  go_wp2_with fail
  refine (equal_same _ _ _ _ _ _ o _ hr2 hr3 hn2.out hn3.out).mono ?_
  rintro e w4 ⟨rfl, hw4⟩
  replace hw4 := hw4.symm
  subst hw4
  clear hr2 hr3
  go_wp2_with fail
  refine (awake09_any _ (HK.out.below hbw3 hKs)).mono ?_
  rintro e w5 ⟨rfl, hb5⟩
  have hbw5 := below_fut hbw3 hb5 (Nat.le_refl _)
  go_wp2_with fail
  go_ret
  exact ⟨rfl, hbw5⟩
end Go.Proofs.YtikjhnbehihbjaaDoor
