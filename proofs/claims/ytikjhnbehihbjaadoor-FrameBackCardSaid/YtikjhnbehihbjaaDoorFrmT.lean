/- The law FrameSums: the walk. -/
import Derived.Test.YtikjhnbehihbjaaDoorFrmI
import Derived.Test.YtikjhnbehihbjaaDoorFrmQ
import Derived.Test.YtikjhnbehihbjaaDoorFrmL
namespace Go.Proofs.YtikjhnbehihbjaaDoor
open Go Go.RowKit
set_option linter.unusedVariables false

theorem Row8.lo {w w' : World} {B : Nat} {p : Option Addr} {bs : List (BitVec 8)} (h : Row8 w p bs) (hb : Below B w w') (hp : ∀ a, p = some a → a.block < B) : Row8 w' p bs := fun hn => by
  obtain ⟨b, off, rfl, hlt, hc⟩ := h hn
  exact ⟨b, off, rfl, Nat.lt_of_lt_of_le hlt hb.size, fun i x hx => (hb.cell (p := ⟨b, off + i, none⟩) (hp ⟨b, off, none⟩ rfl)).trans (hc i x hx)⟩
/-- a byte of a row of one's own, written -/
theorem Own8.poke {w : World} {B g n c : Nat} {bs : List (BitVec 8)} (h : Own8 w B (.slice (some ⟨g, 0, none⟩) n c) bs) (j : Nat) (b : BitVec 8) (hj : j < n) : Own8 (w.setCell ⟨g, j, none⟩ (u8 b)) B (.slice (some ⟨g, 0, none⟩) n c) (bs.set j b) := by
  have h1 := h.1
  rcases h.2 with ⟨e, _⟩ | ⟨g', cap, cur, e, hB, hh, hc, hm, hs, ht⟩
  · injection e with e _ _; cases e
  · injection e with e e2 e3
    injection e with e
    injection e with e
    subst e e2 e3
    refine ⟨by simp, .inr ⟨g, c, cur.setIfInBounds j (u8 b), ?_, hB, Blk.set (t := 5) hh j _, by rw [List.length_set]; exact hc, hm, by simpa using hs, ?_⟩⟩
    · rw [List.length_set]
    · rw [Nat.mul_one] at ht ⊢
      rw [List.length_set, Array.toList_setIfInBounds, List.map_set, ← ht, List.take_set]

def txC : List (BitVec 8) := [0x74#8, 0x78#8]
theorem txC_str : strB txC = ⟨#[116, 120]⟩ := by rfl
theorem txC_ok : cmdOk txC = true := by decide
set_option maxRecDepth 100000 in
set_option maxHeartbeats 8000000 in
theorem frameSums_walk (p : Option Addr) (n c : Nat) (bs : List (BitVec 8)) (at0 : Int) (by0 : BitVec 8) (w : World) (hK : Laid w) (hn : bs.length = n) (hnc : n ≤ c) (hc : c ≤ 140737488351232) (hr : Row8 w p bs) (hp : p = none → c = 0) (ha : -9223372036854775808 ≤ at0) (hb : at0 ≤ 9223372036854775807) :
    Calls Tryd.prog 5 #[.slice p n c, .int .i64 at0, .int .u8 (iv8 by0)] w fun e w' => e = .returned (.bool true) ∧ Below w.heap.size w w' := by
  have HK := Lib.hid hK
  have HN := Lib.hid hn
  have HR := Lib.hid hr
  have HP := Lib.hid hp
  have hKs := hK.size
  obtain ⟨k, hk⟩ : ∃ k, k = min n 500 := ⟨_, rfl⟩
  have hkn : k ≤ n := by omega
  have hk5 : k ≤ 500 := by omega
  have hki : (k : Int) ≤ (c : Int) := by omega
  have HKK : Hid (min (n : Int) 500 = (k : Int)) := Lib.hid (by omega)
  have hbt : Tryd.prog.built 43 [] = some #[.slice none 0 0, .int .i64 0] := by kernel_rfl
  clear hK hn hr hp hk
  go_enter Tryd.func5, Tryd.ntmps5
  go_wp2_with fail
  rw [HKK.out, Int.toNat_natCast]
  refine (clone_any p k c (bs.take k) _ (HR.out.take k) (by rw [List.length_take, HN.out]; omega) (by omega) (fun h => by have := HP.out h; omega)).mono ?_
  rintro e w1 ⟨v1, rfl, ho1, hb1⟩
  have hl1 : (bs.take k).length = k := by rw [List.length_take, HN.out]; omega
  have hr1 : Row8 (w1.alloc (.cells #[.int .u8 1] 5)) (some ⟨w1.heap.size, 0, none⟩) [1#8] := hCells_row (l := [1#8]) (Blk.new w1 _ _)
  obtain ⟨v, hv⟩ : ∃ v, v = v1 := ⟨_, rfl⟩
  obtain ⟨p1, n1, c1, rfl, _⟩ := ho1.open
  have HL1 := Lib.hid hl1
  have HR1 := Lib.hid hr1
  have HO1 := Lib.hid (ho1.alloc (.cells #[.int .u8 1] 5))
  have hb1' := below_fut hb1 (below_new w1 (.cells #[.int .u8 1] 5)) (Nat.le_refl _)
  obtain ⟨b, hbe⟩ : ∃ b, b = bs.take k ++ [1#8] := ⟨_, rfl⟩
  have HBE := Lib.hid hbe
  have hbl : b.length = k + 1 := by rw [hbe, List.length_append, hl1]; rfl
  have hsz1 := hb1'.size
  clear hl1 hr1 ho1 hv hbe
  go_upto_region 2 with ((with_reducible refine wp_append8 (o := ⟨some 21, _, _, _, _, _⟩) ?_ (.tmp 19) (.tmp 20) ?_ (w.heap.size) _ ((bs.take k)) ?_ (HO1.out) (some ⟨w1.heap.size, 0, none⟩) (1) (1) ([1#8]) ?_ (rfl) (HR1.out) ?_ (hsz1) (w.heap.size) (w) (hb1') ?_ ?_
                          · rfl
                          · rfl
                          · rfl
                          · rfl
                          · rw [HL1.out]; simp only [List.length_cons, List.length_nil]; omega
                          · exact Nat.le_refl _
                          intro v2 w2 ho2 hb2 _ _))
  rw [← HBE.out] at ho2
  have hown2 := ho2
  obtain ⟨p2, n2, c2, rfl, hn2, hl2, hm2, hr2⟩ := ho2.open
  have hn2' : n2 = k + 1 := by rw [← hn2.out]; exact hbl
  subst hn2'
  have hp2 : p2 = none → c2 = 0 := fun e => by
    rcases hown2.2 with ⟨e', _⟩ | ⟨_, _, _, e', _⟩
    · injection e'
    · rw [e] at e'; injection e' with e'; cases e'
  have HB2 : Hid (b.length = k + 1) := Lib.hid hbl
  have HR2 := Lib.hid hr2
  have HP2 := Lib.hid hp2
  clear hn2 hown2 hr2 hp2 hbl hb1 hb1' HR1 HO1
  go_wp2_with ((with_reducible refine wp_build (o := ⟨some 24, _, _, _, _, _⟩) ?_ 24 #[(0, .const (.string ⟨#[116, 120]⟩)), (1, .tmp 23)] ?_ [(0, .string ⟨#[116, 120]⟩), (1, .slice p2 (k + 1) c2)] ?_ #[.string ⟨#[116, 120]⟩, .slice p2 (k + 1) c2] built_frm _ _ _ _ ?_
                · rfl
                · rfl
                · rfl))
  have hfe := frmEncode_any txC b p2 (k + 1) c2 w2 (HK.out.below hb2 hKs) (by decide) HR2.out HB2.out hl2 hm2 HP2.out
  rw [txC_str, frmP_ok txC_ok (by rw [HB2.out]; omega)] at hfe
  obtain ⟨X, hX⟩ : ∃ X, X = frmOut txC b := ⟨_, rfl⟩
  have hXl : X.length = 24 + (k + 1) := by rw [hX, frmOut_len _ (by decide), HB2.out]
  rw [← hX] at hfe
  refine hfe.mono ?_
  have HX := Lib.hid hX
  clear hfe hX
  rintro e w3 ⟨v3, rfl, ho3, hb3⟩
  have hbw3 := below_fut hb2 hb3 (Nat.le_refl _)
  replace ho3 : Own8 w3 w2.heap.size v3 X := ho3
  obtain ⟨g3, c3, rfl, hg3⟩ : ∃ g c, v3 = .slice (some ⟨g, 0, none⟩) X.length c ∧ w2.heap.size ≤ g := by
    rcases ho3.2 with ⟨_, h0⟩ | ⟨g, cap, cur, e, hB, _⟩
    · omega
    · exact ⟨g, cap, e, hB⟩
  obtain ⟨L, hL⟩ : ∃ L, L = X.length := ⟨_, rfl⟩
  rw [← hL] at ho3 ⊢
  have hLn : L = 24 + (k + 1) := by rw [hL, hXl]
  have hLi : ((L : Int) == 24 + ((k : Int) + 1)) = true := by rw [beq_iff_eq]; omega
  have hLi2 : ((L : Int) != 24 + ((k : Int) + 1)) = false := by rw [bne, hLi]; rfl
  have hLb : L ≤ 525 := by omega
  have HLN := Lib.hid hLn
  have hjL : (24 : Int) + (0 : Int) ≤ (L : Int) := by omega
  obtain ⟨U, hU⟩ : ∃ U, U = IntKind.u64.wrap at0 := ⟨_, rfl⟩
  have hU0 : 0 ≤ U := by rw [hU]; simp [IntKind.wrap, IntKind.bits, IntKind.signed]; omega
  obtain ⟨j, hj⟩ : ∃ j : Nat, (j : Int) = U % ((k : Int) + 1) := ⟨(U % ((k : Int) + 1)).toNat, by have := Int.emod_nonneg U (b := (k : Int) + 1) (by omega); omega⟩
  have hjk : j < k + 1 := by have := Int.emod_lt_of_pos U (b := (k : Int) + 1) (by omega); omega
  have htm : (IntKind.u64.wrap at0).tmod ((k : Int) + 1) = (j : Int) := by rw [← hU, Int.tmod_eq_emod_of_nonneg hU0]; exact hj.symm
  obtain ⟨x, hx⟩ : ∃ x, X[24 + j]? = some x := ⟨_, List.getElem?_eq_getElem (by omega)⟩
  have hcell : w3.cell? ⟨g3, 24 + j, none⟩ = some (.int .u8 (iv8 x)) := by
    obtain ⟨q, c', e, _, _, hrow⟩ := ho3.row
    injection e with e _ _
    obtain ⟨b', o', e', _, hc'⟩ := hrow (fun e => by rw [e] at hXl; simp at hXl)
    rw [← e] at e'
    injection e' with e'
    injection e' with e1 e2 _
    subst e1 e2
    have := hc' _ _ hx
    rwa [Nat.zero_add] at this
  have hfz : w3.frozen? ⟨g3, 24 + j, none⟩ = false := by
    rcases ho3.2 with ⟨e, _⟩ | ⟨g, cap, cur, e, hB, hh, _⟩
    · cases e
    · injection e with e _ _
      injection e with e
      injection e with e
      subst e
      exact Blk.frozen (t := 5) hh _
  have HO3 := Lib.hid ho3
  have HX3 := Lib.hid hXl
  have HXX := Lib.hid hx
  have hxor := xor8 x by0
  have HJ := Lib.hid hj
  have HU := Lib.hid hU
  have hjl : 24 + (j : Int) < (L : Int) := by omega
  clear ho3 hXl hx hj hU hb3 hLn hL
  go_upto_region 5 with fail
  go_wp2_with fail
  have ho4 := HO3.out.poke (24 + j) (x ^^^ by0) (by have := HLN.out; omega)
  have hbw4 : Below w.heap.size w (w3.setCell ⟨g3, 24 + j, none⟩ (.int .u8 (iv8 (x ^^^ by0)))) := hbw3.setCell (p := ⟨g3, 24 + j, none⟩) (Nat.le_trans hb2.size hg3) _
  obtain ⟨X', hX'⟩ : ∃ X', X' = X.set (24 + j) (x ^^^ by0) := ⟨_, rfl⟩
  have hXl' : X'.length = L := by rw [hX', List.length_set, HX3.out, HLN.out]
  have HZ : Hid (by0 = 0#8 → (frmAll X').2.2 = 0) := Lib.hid (fun e => by
    have : X' = X := by
      rw [hX', e, BitVec.xor_zero]
      have h1 := HXX.out
      obtain ⟨h2, h3⟩ := List.getElem?_eq_some_iff.1 h1
      rw [← h3, List.set_getElem_self]
    rw [this, HX.out, frmAll_one txC_ok (by rw [HB2.out]; omega)])
  rw [← hX'] at ho4
  have HO4 := Lib.hid ho4
  have HX4 := Lib.hid hXl'
  replace hbw4 := hbw4
  change Calls _ _ _ (w3.setCell ⟨g3, 24 + j, none⟩ (u8 (x ^^^ by0))) _
  generalize w3.setCell ⟨g3, 24 + j, none⟩ (u8 (x ^^^ by0)) = w4 at HO4 hbw4 ⊢
  clear ho4 hXl' hX' hcell hfz hxor htm HO3 HJ HU hbw3 ho2 HXX
  refine (new_any09 _).mono ?_
  rintro e w5 ⟨rfl, hrd5, hb5⟩
  have hbw5 := below_fut hbw4 hb5 (Nat.le_refl _)
  have hrow5 := Lib.hid (HO4.out.fut hb5)
  have hw4 := hbw4.size
  have hg3g : g3 < w4.heap.size := (World.ownsRow.lt HO4.out g3 rfl).2
  generalize w4.heap.size = g at hrd5 hw4 hg3g ⊢
  have hat5 : RdAt w5 g g [] 0 := ⟨_, hrd5, Sfx8.nil _ _, fun _ => rfl⟩
  obtain ⟨qx, cx, ex, hcx, hmx, hrx⟩ := hrow5.out.row
  injection ex with ex1 ex2 ex3
  subst ex1 ex3
  rw [← ex2] at hcx
  clear ex2
  have HRX := Lib.hid hrx
  have HAT := Lib.hid hat5
  clear hrx hat5 hrd5 hb5
  go_wp2_with fail
  refine (feeds_any g g [] X' 0 _ L c3 _ (HK.out.below hbw5 hKs) (by omega) (Nat.le_refl _) HAT.out HRX.out HX4.out (by simp only [List.length_nil]; omega)).mono ?_
  have hfp : feedP [] 0 X' = frmAll X' := by unfold feedP; rw [if_pos rfl, List.nil_append]
  unfold FeedsPost
  rw [hfp]
  obtain ⟨er, her⟩ : ∃ er, er = (frmAll X').2.2 := ⟨_, rfl⟩
  rw [← her] at HZ ⊢
  have HER := Lib.hid her
  clear her
  rintro e w6 ⟨l6, rfl, _, _, hb6⟩
  have hbw6 := hbw5.trans (hb6.mono hw4)
  have HRX6 : Hid (Row8 w6 (some ⟨g3, 0, none⟩) X') := Lib.hid (HRX.out.lo hb6 (fun a ha => by injection ha with ha; subst ha; exact hg3g))
  clear hb6 HAT hfp
  go_wp2_with ((with_reducible refine wp_build (o := ⟨some 58, _, _, _, _, _⟩) ?_ 43 #[] ?_ [] ?_ #[.slice none 0 0, .int .i64 0] hbt ?_
                · rfl
                · rfl
                · rfl))
  have hb67 := below_new w6 (.cells #[.slice none 0 0, .int .i64 0] 43)
  have hrr7 : RdR (w6.alloc (.cells #[.slice none 0 0, .int .i64 0] 43)) w6.heap.size (.slice none 0 0) 0 := Blk.new w6 _ _
  have hbw7 := below_fut hbw6 hb67 (Nat.le_refl _)
  refine (rfeedE_any w6.heap.size w6.heap.size (.slice none 0 0) [] X' 0 _ L c3 _ (Nat.le_refl _) hrr7 (Own8.nil _ _) (fun _ => rfl) (HRX6.out.fut hb67) HX4.out (by simp only [List.length_nil]; omega)).mono ?_
  have hfp : feedP [] 0 X' = frmAll X' := by unfold feedP; rw [if_pos rfl, List.nil_append]
  unfold RFeedE
  rw [hfp, ← HER.out]
  have hee : (er == er) = true := by simp
  rintro e w8 ⟨l8, v8, rfl, _, _, _, hst8, _⟩
  have hbw8 : Below w.heap.size w w8 := hbw7.trans (hst8.below (by rw [World.size_alloc]; have := hbw6.size; omega) (fun k hk => by have := hbw6.size; omega))
  by_cases hb0 : by0 = 0#8
  · have h1 : er = 0 := HZ.out hb0
    have h2 : (iv8 by0 == 0) = true := by rw [hb0]; rfl
    have h3 : (iv8 by0 != 0) = false := by rw [bne, h2]; rfl
    subst h1
    clear hst8 hfp hrr7 hb67 hb0
    go_wp2_with fail
    go_ret
    exact ⟨rfl, hbw8⟩
  · have h2 : (iv8 by0 == 0) = false := by rw [beq_eq_false_iff_ne]; intro e; exact hb0 (iv8_inj.1 (e.trans (by rfl)))
    have h3 : (iv8 by0 != 0) = true := by rw [bne, h2]; rfl
    clear hst8 hfp hrr7 hb67 hb0
    go_wp2_with fail
    go_ret
    exact ⟨rfl, hbw8⟩
end Go.Proofs.YtikjhnbehihbjaaDoor
