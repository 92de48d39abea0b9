/- MessageReads: what the statement's function awake tells; the walk.  -/
import Derived.Test.YtndobjlodpkknaaGreatDoorWMsgN
import Derived.Test.YtndobjlodpkknaaGreatDoorWMsgC
import Derived.Test.YtndobjlodpkknaaGreatDoorWGK
import Derived.Test.YtndobjlodpkknaaGreatDoorWGH
import Derived.Test.YtndobjlodpkknaaGreatDoorWGS
import Derived.Test.YtndobjlodpkknaaGreatDoorWGA
namespace Go.Proofs.YtndobjlodpkknaaGreatDoor
open Go Go.RowKit
set_option linter.unusedVariables false
theorem dec_verack : msgDecP (cmdN 2) [] = ({ noMsg with k := 2 }, true, 0) := rfl
theorem built_verack : Tryz.prog.built 37 [(0, .string ⟨#[118, 101, 114, 97, 99, 107]⟩)] = some #[.string (strB (cmdN 2)), .slice none 0 0] := by kernel_rfl
theorem MsgC.size {w : World} {m : TMsg} {cs : List Value} (h : MsgC w m cs) {Y : Array Value} (hY : Y.size = 139) : Y.size = cs.toArray.size := by rw [hY, List.size_toArray, h.len]
set_option maxRecDepth 100000 in
set_option maxHeartbeats 8000000 in
theorem awakeM_any (w : World) : Calls Tryz.prog 9 #[] w fun e w' => e = .returned (.bool true) ∧ Below w.heap.size w w' := by
  obtain ⟨Y0, hY0⟩ : ∃ Y, Y = (msgZ 0).toArray := ⟨_, rfl⟩
  have hz := zMsg
  rw [← hY0] at hz
  have HYS : Y0.size = 139 := by rw [hY0]; exact msgZ_size 0
  have hbt := built_verack
  have hdec := msgDecode_of (cmdN 2) none 0 0 [] w (fun _ => (show FldsK 2 from fun D B g z hD hB w s hr hm => fields_k2 D B g z hD hB w s hr hm)) ⟨none, 0, 0, rfl, rfl, Nat.le_refl _, by unfold maxLen; omega, Row8.nil _ _, fun _ => rfl⟩ (by omega)
  rw [dec_verack] at hdec
  clear hY0
  go_enter Tryz.func9, Tryz.ntmps9
  go_wp2_with ((with_reducible refine wp_build (o := ⟨some 5, _, _, _, _, _⟩) ?_ 37 #[(0, .const (.string ⟨#[118, 101, 114, 97, 99, 107]⟩))] ?_ [(0, .string ⟨#[118, 101, 114, 97, 99, 107]⟩)] ?_ #[.string (strB (cmdN 2)), .slice none 0 0] hbt ?_
                · rfl
                · rfl
                · rfl))
  refine hdec.mono ?_
  rintro e w1 ⟨cs, rfl, ho, hb⟩
  have hone := ho.c.one
  have hsz := ho.c.size HYS
  have HCL := Lib.hid ho.c.len
  have HB := Lib.hid hb
  obtain ⟨hv, dv, bv, bc, hcs, _⟩ := ho
  have HCS := Lib.hid hcs
  have hbn := below_new w1 (.cells Y0 35)
  clear hdec hb hcs HYS hbt
  go_upto_region 2 with ((with_reducible refine wp_store_blk (o := ⟨none, _, _, _, _, _⟩) ?_ 35 (.tmp 1) (.tmp 7) ?_ (w1.heap.size) 35 (Y0) (cs.toArray) ?_ ?_ (Blk.new w1 _ _) ?_ ?_ ?_ (w1.heap.size) (w1) ?_ ?_ ?_
                          · rfl
                          · rfl
                          · rfl
                          · rfl
                          · exact (info_MsgS HCL.out)
                          · exact (hsz)
                          · exact (hone)
                          · exact (hbn)
                          · exact (Nat.le_refl _)
                          intro w2 hB2 hb2 hg2 hs2))
  try simp only [put_none]
  have c0 : w2.cell? ⟨w1.heap.size, 0, none⟩ = some (.int .i64 2) := by rw [hB2.out.cell, List.getElem?_toArray, HCS.out]; rfl
  go_wp2_with fail
  go_ret
  exact ⟨rfl, below_fut HB.out hb2 (Nat.le_refl _)⟩
end Go.Proofs.YtndobjlodpkknaaGreatDoor
