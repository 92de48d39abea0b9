/- sporran/size.ReadText: plain; the walk is still to be written (regions 0 - 8 are plain; region 9 draws its order around two calls of bytes.Clone: go_region_with). -/
import Derived.Test.YtamcmckfommlnaaSizeP
namespace Go.Proofs.Ytamcmckfommlnaa

/-- the text at the beginning of bytes, what stands behind, the error -/
def textP (bs : List (BitVec 8)) (most : Int) : List (BitVec 8) × List (BitVec 8) × Int :=
  if (cutP bs).2.2 ≠ 0 then ([], [], (cutP bs).2.2)
  else if most < 0 ∧ 0 < iv64 (cutP bs).1 ∨ 0 ≤ most ∧ most < iv64 (cutP bs).1 then ([], [], 4)
  else if ((cutP bs).2.1.length : Int) < iv64 (cutP bs).1 then ([], [], 50)
  else ((cutP bs).2.1.take (cutP bs).1.toNat, (cutP bs).2.1.drop (cutP bs).1.toNat, 0)
theorem textP_text (bs rest : List (BitVec 8)) (most : Int) (hb : bs.length ≤ 140737488355000) :
    textP (text bs ++ rest) most = if most < 0 ∧ 0 < bs.length ∨ 0 ≤ most ∧ most < bs.length then ([], [], 4) else (bs, rest, 0) := by
  have hv := iv64_nat bs.length (by omega)
  have hn : (BitVec.ofNat 64 bs.length).toNat = bs.length := by rw [BitVec.toNat_ofNat, Nat.mod_eq_of_lt (by omega)]
  unfold textP text
  rw [List.append_assoc, cutP_enc]
  simp only [hv, hn]
  rw [if_neg (by simp)]
  split
  · rename_i h
    rw [if_pos (by omega)]
  · rename_i h
    rw [if_neg (by rw [List.length_append]; omega), if_neg (by omega)]
    simp
end Go.Proofs.Ytamcmckfommlnaa
