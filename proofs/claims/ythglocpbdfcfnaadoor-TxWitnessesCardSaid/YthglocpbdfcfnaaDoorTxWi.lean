/- sporranlaw07.TxWitnesses: the walk. -/
import Derived.Test.YthglocpbdfcfnaaDoorTxCp
import Derived.Test.YthglocpbdfcfnaaDoorTxID
namespace Go.Proofs.YthglocpbdfcfnaaDoor
open Go Go.RowKit
set_option linter.unusedVariables false

theorem TxC.sizeU {w : World} {t : TTx} {cs : List Value} (h : TxC w t cs) : ZTx.toArray.size = cs.toArray.size := by rw [List.size_toArray, List.size_toArray, h.len4]; rfl
/-- a transaction whose first input has other witnesses -/
def TTx.put (t : TTx) (x : TIn) (ws : List Bs) : TTx := { t with is := t.is.set 0 { x with wi := ws } }
theorem put_bytes (t : TTx) (x : TIn) (ws : List Bs) (hx : t.is[0]? = some x) : txB (t.put x ws) false = txB t false := by
  have h1 : (t.is.set 0 { x with wi := ws }).map inB = t.is.map inB := by
    rw [List.map_set]
    apply List.ext_getElem?
    intro i
    rw [List.getElem?_set, List.length_map, List.getElem?_map]
    split
    · rename_i h0
      subst h0
      rw [hx, if_pos (List.getElem?_eq_some_iff.1 hx).1]
      rfl
    · rfl
  have h2 : insB (t.is.set 0 { x with wi := ws }) = insB t.is := by
    unfold insB
    rw [h1, List.length_set]
  unfold txB TTx.put
  simp only [Bool.false_eq_true, if_false, List.nil_append, h2]
theorem idP_put (t : TTx) (x : TIn) (ws : List Bs) (hx : t.is[0]? = some x) (h1 : canTx t = true) (h2 : canTx (t.put x ws) = true) : idP (t.put x ws) = idP t := by
  unfold idP
  rw [h1, h2, put_bytes t x ws hx]
theorem idP_can {t : TTx} (h : canTx t = true) : ∃ V, idP t = (V, 0) := ⟨_, by unfold idP; rw [h]; rfl⟩
theorem idP_not {t : TTx} (h : canTx t = false) : idP t = (noughts 32, 1) := by unfold idP; rw [h]; rfl
theorem in_wit (id : Bs) (ix sq : BitVec 32) (a b w : Value) (h : id.length = 32) : (hCells id ++ [u32 ix, a, u32 sq, b]).set 35 w = hCells id ++ [u32 ix, a, u32 sq, w] := by
  have hl : (hCells id).length = 32 := by simp [hCells, h]
  rw [List.set_append_right _ _ (by omega), hl]
  rfl
/-- the first input's witnesses written over -/
theorem poke_in {B : Nat} {w : World} {v wv : Value} {is : List TIn} {x : TIn} {ws : List Bs} (h : RowO (InO B) 40 36 B w v is) (hx : is[0]? = some x) (hws : ∀ w', Below B w w' → ESl TextC 1 w' wv ws) :
    ∃ b n c cur, v = .slice (some ⟨b, 0, none⟩) n c ∧ is.length = n ∧ 0 < n ∧ n ≤ c ∧ c ≤ 9223372036854775807 ∧ B ≤ b ∧ Blk w b 40 cur ∧ (∃ u, cur[35]? = some u) ∧ ESl InC 36 (w.setCell ⟨b, 35, none⟩ wv) v (is.set 0 { x with wi := ws }) := by
  obtain ⟨css, h1, h2, h3⟩ := h
  have hk : 0 < is.length := (List.getElem?_eq_some_iff.1 hx).1
  have hl := css_len h1 h3
  have hcells := fun (g : Nat) hg => World.ownsRow.cells h2 (g := g) hg
  rcases h2.2 with ⟨_, e⟩ | ⟨g, cap, cur, rfl, hB, hh, hc1, hc2, hsz, htk⟩
  · omega
  have hblk : Blk w g 40 cur := hh
  have hat : ∀ (i : Nat) (cs : List Value), css[i]? = some cs → ∀ j, j < 36 → cur[i * 36 + j]? = cs[j]? := by
    intro i cs hi j hj
    have hil : i < css.length := (List.getElem?_eq_some_iff.1 hi).1
    have h5 := flat_at 36 css hl i cs hi j hj
    rw [← htk, List.getElem?_take, if_pos (by omega), Array.getElem?_toList] at h5
    exact h5
  obtain ⟨cs0, hc0, hE0, hl0⟩ := h3 0 x hx
  obtain ⟨sv, wv0, hcs0, hid, hs0, hw0⟩ := hE0
  have h35 : cur[35]? = some wv0 := by
    have := hat 0 cs0 hc0 35 (by omega)
    rw [Nat.zero_mul, Nat.zero_add] at this
    rw [this, hcs0, List.getElem?_append_right (by simp [hCells, hid])]
    simp [hCells, hid]
  have hst := Stays.set w g 35 wv
  have hsp : ∀ Ts : List TypeId, 40 ∉ Ts → Sep B Ts w (· = g) := fun Ts hT => sep_one hblk hT
  have hbel : Below B w (w.setCell ⟨g, 35, none⟩ wv) := hst.below (by have := hblk.lt; omega) fun k hk => by have : k = g := hk; omega
  refine ⟨g, _, cap, cur, rfl, rfl, hk, hc1, by unfold maxLen at hc2; omega, hB, hblk, ⟨wv0, h35⟩, ⟨some ⟨g, 0, none⟩, _, cap, rfl, by rw [List.length_set], hc1, hc2, fun _ => ⟨g, 0, rfl, (hblk.set 35 wv).lt, fun i y hy => ?_⟩, fun h => by cases h⟩⟩
  rw [List.getElem?_set] at hy
  split at hy
  · rename_i h0
    subst h0
    injection hy with hy
    subst hy
    refine ⟨hCells x.id ++ [u32 x.ix, sv, u32 x.sq, wv], ⟨sv, wv, rfl, hid, (Own8.sep hs0 hst (hsp _ (by decide))).sl, hws _ hbel⟩, fun j u hj => ?_⟩
    have hj36 : j < 36 := by
      have := (List.getElem?_eq_some_iff.1 hj).1
      simp [hCells, hid] at this
      omega
    rw [(hblk.set 35 wv).cell, Nat.zero_mul, Nat.zero_add]
    have h6 := hat 0 cs0 hc0 j hj36
    rw [Nat.zero_mul, Nat.zero_add, hcs0] at h6
    rw [← in_wit x.id x.ix x.sq sv wv0 wv hid] at hj
    rw [Array.getElem?_setIfInBounds]
    rw [List.getElem?_set] at hj
    split
    · rename_i h7
      rw [if_pos h7] at hj
      subst h7
      rw [if_pos (Array.getElem?_eq_some_iff.1 h35).1]
      split at hj
      · exact hj
      · cases hj
    · rename_i h7
      rw [if_neg h7] at hj
      rw [h6]
      exact hj
  · rename_i h0
    obtain ⟨cs, hcs, hE, hl1⟩ := h3 i y hy
    refine ⟨cs, (inO_keeps B _ _ _ _ _ hE hst (hsp _ (by decide))).c, fun j u hj => ?_⟩
    have hj36 : j < 36 := by rw [← hl1]; exact (List.getElem?_eq_some_iff.1 hj).1
    rw [(hblk.set 35 wv).cell, Nat.zero_add, Array.getElem?_setIfInBounds_ne (by omega)]
    rw [hat i cs hcs j hj36]
    exact hj

theorem open_texts {H : Type} {enc : TypeId × Value → H} {W : World} {a0 : Option Addr} {len cap : Nat} {d0 : DataW H} {p : List MemPlace} (h0 : DataW.Trod enc Tryd.prog W 0 (fun _ => true) true 27 (.slice a0 len cap) d0 p) : ∃ ls, ESl TextC 1 W (.slice a0 len cap) ls := by
  obtain ⟨fuel, hf⟩ := h0
  obtain ⟨v, ls, e, h⟩ := texts_cell hf
  have e' : [Value.slice a0 len cap] = [v] := e
  injection e' with e'
  subst e'
  exact ⟨ls, h⟩

set_option maxRecDepth 100000 in
set_option maxHeartbeats 32000000 in
theorem txWitnesses_walk (cs : Array Value) (t : TTx) (p : Option Addr) (n c : Nat) (ws : List Bs) (W : World) (hK : Laid W) (h : TxC W t cs.toList) (hsz : TxSz t) (hws : ESl TextC 1 W (.slice p n c) ws) :
    Calls Tryd.prog 3 #[.agg cs, .slice p n c] W fun e w' => e = .returned (.bool true) ∧ Below W.heap.size W w' := by
  obtain ⟨cl, hcl⟩ : ∃ cl, cl = cs.toList := ⟨_, rfl⟩
  have hcs : cs = cl.toArray := by rw [hcl]
  subst hcs
  rw [← hcl] at h
  clear hcl
  have hb1 := below_new W (.cells cl.toArray 26)
  have HB1 := Lib.hid (Blk.new W 26 cl.toArray)
  have HC1 := Lib.hid (txC_keeps _ _ _ _ h hb1)
  have HW1 := Lib.hid hb1
  have HLL := Lib.hid h.len4
  have HK := Lib.hid hK
  have HKs := Lib.hid hK.size
  have HZ := Lib.hid hsz
  have HWS := Lib.hid hws
  have hz := zTx
  obtain ⟨x3, hx3⟩ : ∃ x, x = idP t := ⟨_, rfl⟩
  have hvl := idP_len t
  rw [← hx3] at hvl
  obtain ⟨V, k3⟩ := x3
  have HX3 := Lib.hid hx3.symm
  have HVL : Hid (V.length = 32) := Lib.hid hvl
  clear h hb1 hK hsz hx3 hvl hws
  obtain ⟨YH, hYH⟩ : ∃ Y, Y = (hCells (noughts 32)).toArray := ⟨_, rfl⟩
  have hzh : ∀ w, (zeroValue 29).run Tryd.prog w = .ok (.agg YH) w := by rw [hYH]; exact zero32
  have hbt : Tryd.prog.built 29 [] = some (hCells (noughts 32)).toArray := built_h0
  have HYS : Hid (YH.size = 32) := Lib.hid (by rw [hYH]; rfl)
  clear hYH
  obtain ⟨N, hN⟩ : ∃ N, N = noughts 32 := ⟨_, rfl⟩
  rw [← hN] at hbt
  have HN := Lib.hid hN
  have HNL : Hid (N.length = 32) := Lib.hid (by rw [hN]; rfl)
  clear hN
  go_enter Tryd.func3, Tryd.ntmps3
  go_upto_region 1 with fail
  generalize W.alloc (.cells cl.toArray 26) = w1 at *
  obtain ⟨z1, hz1⟩ : ∃ z, z = W.heap.size := ⟨_, rfl⟩
  rw [← hz1] at HB1 ⊢
  clear hz1
  have l1 := blk_range HB1.out
  have hE := txID_any t cl w1 HC1.out (HK.out.below HW1.out HKs.out)
  rw [HX3.out] at hE
  unfold IdPost at hE
  simp only at hE
  go_upto_region 2 with (first
    | (with_reducible refine wpList_load_mid (op := ⟨some 11, _, _, _, _, _⟩) ?_ 26 (.tmp 2) ?_ (z1) (0) ?_ (cl) _ (l1) Tryd.underlying26 ?_ ?_ ?_
       · rfl
       · rfl
       · rfl
       · rfl
       · exact ((info_Tx HLL.out)))
    | (with_reducible refine hE.mono ?_; rintro e w8 ⟨rfl, hb8⟩; have hbn := below_new w8 (.cells YH 29); have HB8 := Lib.hid hb8; clear hb8)
    | (with_reducible refine wp_store_blk (o := ⟨none, _, _, _, _, _⟩) ?_ 29 (.tmp 5) (.tmp 13) ?_ (w8.heap.size) 29 (YH) ((hCells (V)).toArray) ?_ ?_ (Blk.new w8 _ _) ?_ ?_ ?_ (w8.heap.size) (w8) ?_ ?_ ?_
       · rfl
       · rfl
       · rfl
       · rfl
       · exact (hCells_info' (HVL.out))
       · exact ((HYS.out).trans (hCells_size (HVL.out)).symm)
       · exact (hCells_one _)
       · exact (hbn)
       · exact (Nat.le_refl _)
       intro w2 hB2 hb2 hg2 hs2))
  try simp only [put_none]
  obtain ⟨z5, hz5⟩ : ∃ z, z = w8.heap.size := ⟨_, rfl⟩
  have hb12 := below_fut HB8.out hb2 (Nat.le_refl _)
  have HW2 := Lib.hid (below_fut HW1.out hb12 (Nat.le_refl _))
  have HB1c := Lib.hid (HB1.out.fut hb12)
  have HC1c := Lib.hid (txC_keeps _ _ _ _ HC1.out hb12)
  have HH2 := Lib.hid hB2.out
  rw [← hz5] at HH2 ⊢
  clear hz5 hb12 hbn hb2 hg2 hs2 hB2 HB8 l1 hE HB1 HC1 HW1
  have l1 := blk_range HB1c.out
  have hC := refCan_any t cl w2 HC1c.out
  obtain ⟨r, hr⟩ : ∃ r, r = canTx t := ⟨_, rfl⟩
  rw [← hr] at hC
  have HR := Lib.hid hr
  clear hr
  go_upto_region 2 with fail
  cases r with
  | false =>
    have hid := idP_not HR.out.symm
    rw [HX3.out] at hid
    injection hid with h1 h2
    subst h2
    have hV : V = N := by rw [h1, HN.out]
    subst hV
    have hsm := hash_same V HVL.out
    clear h1
    go_upto_region 3 with (first
      | (with_reducible refine wpList_load_mid (op := ⟨some 15, _, _, _, _, _⟩) ?_ 26 (.tmp 2) ?_ (z1) (0) ?_ (cl) _ (l1) Tryd.underlying26 ?_ ?_ ?_
         · rfl
         · rfl
         · rfl
         · rfl
         · exact ((info_Tx HLL.out)))
      | (with_reducible refine hC.mono ?_; rintro e w3 ⟨rfl, hb3⟩))
    have HW3 := Lib.hid (below_fut HW2.out hb3 (Nat.le_refl _))
    have l5 := blk_range (HH2.out.fut hb3)
    clear hb3 l1 hC
    go_wp2_with (first
      | (with_reducible refine wpList_load_midG (op := ⟨some 21, _, _, _, _, _⟩) ?_ 29 (.tmp 5) ?_ (z5) (0) ?_ ((hCells (V))) _ (l5) Tryd.underlying29 ?_ ?_ ?_
         · rfl
         · rfl
         · rfl
         · rfl
         · exact (hCells_info (HVL.out)))
      | (with_reducible refine wp_buildGd (o := ⟨some 22, _, _, _, _, _⟩) ?_ 29 #[] ?_ [] ?_ (hCells V).toArray hbt ?_
         · rfl
         · rfl
         · rfl))
    refine (awake_any _).mono ?_
    rintro e w4 ⟨rfl, hb4⟩
    go_wp2_with fail
    go_ret
    exact ⟨rfl, below_fut HW3.out hb4 (Nat.le_refl _)⟩
  | true =>
  have hcan : canTx t = true := HR.out.symm
  obtain ⟨V0, hV0⟩ := idP_can hcan
  rw [HX3.out] at hV0
  injection hV0 with h1 h2
  subst h1 h2
  obtain ⟨x, hx⟩ : ∃ x, t.is[0]? = some x := ⟨_, List.getElem?_eq_getElem (canTx_all hcan).1⟩
  have HX := Lib.hid hx
  have HCAN := Lib.hid hcan
  clear hx hcan
  go_upto_region 4 with (first
    | (with_reducible refine wpList_load_mid (op := ⟨some 15, _, _, _, _, _⟩) ?_ 26 (.tmp 2) ?_ (z1) (0) ?_ (cl) _ (l1) Tryd.underlying26 ?_ ?_ ?_
       · rfl
       · rfl
       · rfl
       · rfl
       · exact ((info_Tx HLL.out)))
    | (with_reducible refine hC.mono ?_; rintro e w3 ⟨rfl, hb3⟩))
  have HW3 := Lib.hid (below_fut HW2.out hb3 (Nat.le_refl _))
  have HB3 := Lib.hid (HB1c.out.fut hb3)
  have HC3 := Lib.hid (txC_keeps _ _ _ _ HC1c.out hb3)
  have HH3 := Lib.hid (HH2.out.fut hb3)
  clear hb3 l1 hC HB1c HC1c HH2 HW2
  have l1 := blk_range HB3.out
  have hcp := refTxCopy_any t cl w3 HC3.out HZ.out
  go_upto_region 5 with (first
    | (with_reducible refine wpList_load_mid (op := ⟨some 28, _, _, _, _, _⟩) ?_ 26 (.tmp 2) ?_ (z1) (0) ?_ (cl) _ (l1) Tryd.underlying26 ?_ ?_ ?_
       · rfl
       · rfl
       · rfl
       · rfl
       · exact ((info_Tx HLL.out)))
    | (with_reducible refine hcp.mono ?_
       rintro e w4 ⟨ct, rfl, hO, hb4⟩
       have hone := hO.c.one
       have HTL := Lib.hid hO.c.len4
       have hbn := below_new w4 (.cells ZTx.toArray 26)
       have hzsz := hO.c.sizeU
       have HO4 := Lib.hid hO
       have HB4 := Lib.hid hb4
       clear hO hb4)
    | (with_reducible refine wp_store_blk (o := ⟨none, _, _, _, _, _⟩) ?_ 26 (.tmp 7) (.tmp 29) ?_ (w4.heap.size) 26 (ZTx.toArray) (ct.toArray) ?_ ?_ (Blk.new w4 _ _) ?_ ?_ ?_ (w4.heap.size) (w4) ?_ ?_ ?_
       · rfl
       · rfl
       · rfl
       · rfl
       · exact (by rw [List.size_toArray]; exact info_Tx HTL.out)
       · exact (hzsz)
       · exact (hone)
       · exact (hbn)
       · exact (Nat.le_refl _)
       intro w5 hB5 hb5 hg5 hs5))
  try simp only [put_none]
  obtain ⟨z7, hz7⟩ : ∃ z, z = w4.heap.size := ⟨_, rfl⟩
  have hb35 := below_fut HB4.out hb5 (Nat.le_refl _)
  have HW5 := Lib.hid (below_fut HW3.out hb35 (Nat.le_refl _))
  have HH5 := Lib.hid (HH3.out.fut hb35)
  have HO5 : Hid (TxO w3.heap.size w5 t ct) := Lib.hid (txO_keeps _ _ _ _ _ _ HO4.out (Stays.of_below hb5 (Nat.le_refl _) (fun _ => False)) (fun _ h => h.elim))
  have HZ7 := Lib.hid hB5.out
  have HW3S := Lib.hid HW3.out.size
  rw [← hz7] at HZ7 ⊢
  clear hz7 hb35 hone hbn hzsz hb5 hg5 hs5 hB5 HO4 HB4 l1 hcp HB3 HC3 HH3
  obtain ⟨iv, ov, hct, hi5, ho5⟩ := HO5.out
  have HCT := Lib.hid hct
  have hpk := poke_in (wv := .slice p n c) hi5 HX.out (ws := ws) (fun w' hb' => HWS.out.fut textC_keeps (HW5.out.trans (hb'.mono HW3S.out)))
  obtain ⟨b, n6, c6, cur, rfl, hn6, hn0, hnc6, hcm6, hBb, hblk, ⟨u35, hu⟩, hesl⟩ := hpk
  have hst := Stays.set w5 b 35 (.slice p n c)
  have hC7 : TxC (w5.setCell ⟨b, 35, none⟩ (.slice p n c)) (t.put x ws) ct := ⟨_, ov, hct, hesl, (ho5.sep (outO_keeps _) hst (sep_one hblk (by decide))).e fun _ _ h => h.c⟩
  have hzb : z7 ≠ b := fun e => by
    rw [← e] at hblk
    exact absurd (Blk.inj HZ7.out hblk).1 (by decide)
  have hz5b : z5 ≠ b := fun e => by
    rw [← e] at hblk
    exact absurd (Blk.inj HH5.out hblk).1 (by decide)
  have c7 : w5.cell? ⟨z7, 1, none⟩ = some (.slice (some ⟨b, 0, none⟩) n6 c6) := by rw [HZ7.out.cell, hct]; rfl
  have c35 : w5.cell? ⟨b, 35, none⟩ = some u35 := by rw [hblk.cell]; exact hu
  have f35 := hblk.frozen 35
  have hn0i : (0 : Int) < (n6 : Int) := by omega
  have HC7 := Lib.hid hC7
  have HH7 := Lib.hid (HH5.out.stays hst hz5b)
  have HZ8 := Lib.hid (HZ7.out.stays hst hzb)
  have HW7 : Hid (Below W.heap.size W (w5.setCell ⟨b, 35, none⟩ (.slice p n c))) := Lib.hid (HW5.out.trans (hst.below HW5.out.size fun k hk => by have : k = b := hk; have := HW3S.out; omega))
  clear hct hi5 ho5 hesl hst hC7 hzb hz5b hblk hu HO5 HH5 HZ7 HW5 hBb
  go_upto_region 6 with fail
  clear c7 c35 f35 hn0i
  generalize w5.setCell ⟨b, 35, none⟩ (.slice p n c) = w7 at *
  have l7 := blk_range HZ8.out
  have hE := txID_any (t.put x ws) ct w7 HC7.out (HK.out.below HW7.out HKs.out)
  obtain ⟨x4, hx4⟩ : ∃ y, y = idP (t.put x ws) := ⟨_, rfl⟩
  have hvl4 := idP_len (t.put x ws)
  rw [← hx4] at hvl4 hE
  obtain ⟨V4, k4⟩ := x4
  have HX4 := Lib.hid hx4.symm
  have HVL4 : Hid (V4.length = 32) := Lib.hid hvl4
  unfold IdPost at hE
  simp only at hE
  clear hx4 hvl4
  go_upto_region 7 with (first
    | (with_reducible refine wpList_load_mid (op := ⟨some 36, _, _, _, _, _⟩) ?_ 26 (.tmp 7) ?_ (z7) (0) ?_ (ct) _ (l7) Tryd.underlying26 ?_ ?_ ?_
       · rfl
       · rfl
       · rfl
       · rfl
       · exact ((info_Tx HTL.out)))
    | (with_reducible refine hE.mono ?_; rintro e w8 ⟨rfl, hb8⟩; have hbn := below_new w8 (.cells YH 29); have HB8 := Lib.hid hb8; clear hb8)
    | (with_reducible refine wp_store_blk (o := ⟨none, _, _, _, _, _⟩) ?_ 29 (.tmp 8) (.tmp 38) ?_ (w8.heap.size) 29 (YH) ((hCells (V4)).toArray) ?_ ?_ (Blk.new w8 _ _) ?_ ?_ ?_ (w8.heap.size) (w8) ?_ ?_ ?_
       · rfl
       · rfl
       · rfl
       · rfl
       · exact (hCells_info' (HVL4.out))
       · exact ((HYS.out).trans (hCells_size (HVL4.out)).symm)
       · exact (hCells_one _)
       · exact (hbn)
       · exact (Nat.le_refl _)
       intro w9 hB9 hb9 hg9 hs9))
  try simp only [put_none]
  obtain ⟨z8, hz8⟩ : ∃ z, z = w8.heap.size := ⟨_, rfl⟩
  have hb79 := below_fut HB8.out hb9 (Nat.le_refl _)
  have HW9 := Lib.hid (below_fut HW7.out hb79 (Nat.le_refl _))
  have HZ9 := Lib.hid (HZ8.out.fut hb79)
  have HC9 := Lib.hid (txC_keeps _ _ _ _ HC7.out hb79)
  have HH9 := Lib.hid (HH7.out.fut hb79)
  have HG9 := Lib.hid hB9.out
  rw [← hz8] at HG9 ⊢
  clear hz8 hb79 hbn hb9 hg9 hs9 hB9 HB8 l7 hE HZ8 HC7 HH7 HW7 hz hzh
  have l7 := blk_range HZ9.out
  have hC := refCan_any (t.put x ws) ct w9 HC9.out
  obtain ⟨r4, hr4⟩ : ∃ r, r = canTx (t.put x ws) := ⟨_, rfl⟩
  rw [← hr4] at hC
  have HR4 := Lib.hid hr4
  clear hr4
  cases r4 with
  | false =>
    have hid := idP_not HR4.out.symm
    rw [HX4.out] at hid
    injection hid with h1 h2
    subst h2
    clear h1
    go_wp2_with (first
      | (with_reducible refine wpList_load_mid (op := ⟨some 40, _, _, _, _, _⟩) ?_ 26 (.tmp 7) ?_ (z7) (0) ?_ (ct) _ (l7) Tryd.underlying26 ?_ ?_ ?_
         · rfl
         · rfl
         · rfl
         · rfl
         · exact ((info_Tx HTL.out)))
      | (with_reducible refine hC.mono ?_; rintro e wa ⟨rfl, hba⟩; have HWA := Lib.hid (below_fut HW9.out hba (Nat.le_refl _)); clear hba))
    refine (awake_any _).mono ?_
    rintro e wb ⟨rfl, hbb⟩
    go_wp2_with fail
    go_ret
    exact ⟨rfl, below_fut HWA.out hbb (Nat.le_refl _)⟩
  | true =>
  have hid := idP_put t x ws HX.out HCAN.out HR4.out.symm
  rw [HX4.out, HX3.out] at hid
  injection hid with h1 h2
  subst h1 h2
  go_upto_region 9 with (first
    | (with_reducible refine wpList_load_mid (op := ⟨some 40, _, _, _, _, _⟩) ?_ 26 (.tmp 7) ?_ (z7) (0) ?_ (ct) _ (l7) Tryd.underlying26 ?_ ?_ ?_
       · rfl
       · rfl
       · rfl
       · rfl
       · exact ((info_Tx HTL.out)))
    | (with_reducible refine hC.mono ?_; rintro e wa ⟨rfl, hba⟩))
  have HWA := Lib.hid (below_fut HW9.out hba (Nat.le_refl _))
  have l5 := blk_range (HH9.out.fut hba)
  have l8 := blk_range (HG9.out.fut hba)
  have hsm := hash_same V4 HVL4.out
  have heq := fun w => hash_eq V4 N HVL4.out HNL.out w
  clear hba l7 hC
  by_cases hV : V4 = N
  · rw [decide_eq_true hV] at heq
    clear hV
    go_wp2_with (first
      | (with_reducible refine wpList_load_midG (op := ⟨some 55, _, _, _, _, _⟩) ?_ 29 (.tmp 5) ?_ (z5) (0) ?_ ((hCells (V4))) _ (l5) Tryd.underlying29 ?_ ?_ ?_
         · rfl
         · rfl
         · rfl
         · rfl
         · exact (hCells_info (HVL4.out)))
      | (with_reducible refine wpList_load_midG (op := ⟨some 56, _, _, _, _, _⟩) ?_ 29 (.tmp 8) ?_ (z8) (0) ?_ ((hCells (V4))) _ (l8) Tryd.underlying29 ?_ ?_ ?_
         · rfl
         · rfl
         · rfl
         · rfl
         · exact (hCells_info (HVL4.out)))
      | (with_reducible refine wpList_load_midG (op := ⟨some 60, _, _, _, _, _⟩) ?_ 29 (.tmp 5) ?_ (z5) (0) ?_ ((hCells (V4))) _ (l5) Tryd.underlying29 ?_ ?_ ?_
         · rfl
         · rfl
         · rfl
         · rfl
         · exact (hCells_info (HVL4.out)))
      | (with_reducible refine wpList_load_midG (op := ⟨some 65, _, _, _, _, _⟩) ?_ 29 (.tmp 5) ?_ (z5) (0) ?_ ((hCells (V4))) _ (l5) Tryd.underlying29 ?_ ?_ ?_
         · rfl
         · rfl
         · rfl
         · rfl
         · exact (hCells_info (HVL4.out)))
      | (with_reducible refine wp_buildGd (o := ⟨some 61, _, _, _, _, _⟩) ?_ 29 #[] ?_ [] ?_ (hCells N).toArray hbt ?_
         · rfl
         · rfl
         · rfl)
      | (with_reducible refine wp_buildGd (o := ⟨some 66, _, _, _, _, _⟩) ?_ 29 #[] ?_ [] ?_ (hCells N).toArray hbt ?_
         · rfl
         · rfl
         · rfl))
    refine (awake_any _).mono ?_
    rintro e wb ⟨rfl, hbb⟩
    go_wp2_with fail
    go_ret
    exact ⟨rfl, below_fut HWA.out hbb (Nat.le_refl _)⟩
  · rw [decide_eq_false hV] at heq
    clear hV
    go_wp2_with (first
      | (with_reducible refine wpList_load_midG (op := ⟨some 55, _, _, _, _, _⟩) ?_ 29 (.tmp 5) ?_ (z5) (0) ?_ ((hCells (V4))) _ (l5) Tryd.underlying29 ?_ ?_ ?_
         · rfl
         · rfl
         · rfl
         · rfl
         · exact (hCells_info (HVL4.out)))
      | (with_reducible refine wpList_load_midG (op := ⟨some 56, _, _, _, _, _⟩) ?_ 29 (.tmp 8) ?_ (z8) (0) ?_ ((hCells (V4))) _ (l8) Tryd.underlying29 ?_ ?_ ?_
         · rfl
         · rfl
         · rfl
         · rfl
         · exact (hCells_info (HVL4.out)))
      | (with_reducible refine wpList_load_midG (op := ⟨some 60, _, _, _, _, _⟩) ?_ 29 (.tmp 5) ?_ (z5) (0) ?_ ((hCells (V4))) _ (l5) Tryd.underlying29 ?_ ?_ ?_
         · rfl
         · rfl
         · rfl
         · rfl
         · exact (hCells_info (HVL4.out)))
      | (with_reducible refine wp_buildGd (o := ⟨some 61, _, _, _, _, _⟩) ?_ 29 #[] ?_ [] ?_ (hCells N).toArray hbt ?_
         · rfl
         · rfl
         · rfl))
    go_ret
    exact ⟨rfl, HWA.out⟩
end Go.Proofs.YthglocpbdfcfnaaDoor
