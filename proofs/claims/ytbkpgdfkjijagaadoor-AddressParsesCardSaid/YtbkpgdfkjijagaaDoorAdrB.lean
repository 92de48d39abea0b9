/- address.Base58: the walk. -/
import Derived.Test.YtbkpgdfkjijagaaDoorAdrI
import Derived.RangeFuncNested
import Derived.RangeFuncBound
import Derived.RangeFuncCalls
import Derived.RangeFuncLeaves
import Derived.RangeFuncBox
import Derived.Shelf.Abstract
import Derived.Shelf.RegionOpen
import Derived.WalkKit
import Derived.OwnWalkIn
import Derived.TacticsInMore
import Derived.LoopNIn
import Derived.LoopIn
namespace Go.Proofs.YtbkpgdfkjijagaaDoor
open Go.RowKit Go.Shelf
set_option linter.unusedVariables false
attribute [local go_sem] Oper.semAt_some

/-! ### plain -/
/-- the digits of the bytes so far, the lowest first -/
def low58 (bs : List (BitVec 8)) (i : Nat) : List Nat := digs 58 (valN 256 ((nats bs).take i))
theorem low58_succ {bs : List (BitVec 8)} {i : Nat} {x : BitVec 8} (h : bs[i]? = some x) : low58 bs (i + 1) = muls 58 256 (low58 bs i) x.toNat := by
  unfold low58 nats
  rw [List.take_add_one, List.getElem?_map, h, muls_digs (by omega) (by omega)]
  show digs 58 (valN 256 ((bs.map BitVec.toNat).take i ++ [x.toNat])) = _
  rw [valN_app]
theorem low58_lt (bs : List (BitVec 8)) (i : Nat) : ∀ d ∈ low58 bs i, d < 58 := digs_lt (by omega) _
theorem low58_len (bs : List (BitVec 8)) (i : Nat) (h : i ≤ 200) : (low58 bs i).length ≤ 300 := by
  have h1 : valN 256 ((nats bs).take i) < 256 ^ i := by
    refine Nat.lt_of_lt_of_le (valN_lt (by omega) _ fun d hd => nats_lt bs d (List.mem_of_mem_take hd)) (Nat.pow_le_pow_right (by omega) (by rw [List.length_take]; omega))
  have := digs58_len i _ h1
  unfold low58
  omega
/-- within a round: so many digits are done -/
structure InDig (D : List Nat) (x k c : Nat) (done : List Nat) : Prop where
  len : done.length = k
  eq : muls 58 256 D x = done ++ muls 58 256 (D.drop k) c
  carry : c < 256
theorem InDig.step {D : List Nat} {x k c d : Nat} {done : List Nat} (h : InDig D x k c done) (hD : ∀ d ∈ D, d < 58) (hd : D[k]? = some d) : InDig D x (k + 1) ((c + 256 * d) / 58) (done ++ [(c + 256 * d) % 58]) := by
  obtain ⟨hk, hd2⟩ := List.getElem?_eq_some_iff.1 hd
  have h1 := hD d (List.mem_of_getElem? hd)
  have h2 := h.carry
  refine ⟨by rw [List.length_append, h.len]; rfl, ?_, by omega⟩
  rw [h.eq, List.drop_eq_getElem_cons hk, hd2, muls, List.append_assoc]
  rfl
theorem InDig.row {D : List Nat} {x k c d : Nat} {done : List Nat} (h : InDig D x k c done) (hd : D[k]? = some d) (y : Nat) : (ofNats (done ++ D.drop k)).set k (BitVec.ofNat 8 y) = ofNats ((done ++ [y]) ++ D.drop (k + 1)) ∧ (ofNats (done ++ D.drop k))[k]? = some (BitVec.ofNat 8 d) := by
  obtain ⟨hk, hd2⟩ := List.getElem?_eq_some_iff.1 hd
  have e : D.drop k = d :: D.drop (k + 1) := by rw [List.drop_eq_getElem_cons hk, hd2]
  have hl := h.len
  constructor
  · unfold ofNats
    rw [e, List.map_append, List.map_append, List.map_append, List.map_cons, List.set_append_right _ _ (by rw [List.length_map]; omega), List.length_map, hl, Nat.sub_self, List.append_assoc]
    rfl
  · unfold ofNats
    rw [e, List.map_append, List.getElem?_append_right (by rw [List.length_map]; omega), List.length_map, hl, Nat.sub_self]
    rfl

theorem back_digits (D : List Nat) (hD : ∀ d ∈ D, d < 58) (h58 : ∀ i, ((ofNats D).getD i 0#8).toNat < 58) (m : Nat) (hm : m = (ofNats D).length) : (uptoN (backF (ofNats D) h58) m).map (fun x => dig58 x.1.2.toNat) = D.reverse.map dig58 := by
  subst hm
  rw [ofNats_len]
  refine List.ext_getElem? fun t => ?_
  by_cases ht : t < D.length
  · unfold uptoN
    rw [List.getElem?_map, List.getElem?_map, List.getElem?_range ht, List.getElem?_map, List.getElem?_reverse ht]
    obtain ⟨d, hd⟩ : ∃ d, D[D.length - 1 - t]? = some d := ⟨_, List.getElem?_eq_getElem (by omega)⟩
    have hd2 := hD d (List.mem_of_getElem? hd)
    rw [hd]
    show some (dig58 ((ofNats D).getD ((ofNats D).length - 1 - t) 0#8).toNat) = some (dig58 d)
    rw [ofNats_len, List.getD_eq_getElem?_getD]
    unfold ofNats
    rw [List.getElem?_map, hd]
    show some (dig58 (BitVec.ofNat 8 d).toNat) = _
    rw [BitVec.toNat_ofNat, Nat.mod_eq_of_lt (by omega)]
  · rw [List.getElem?_eq_none (by rw [List.length_map, uptoN_length]; omega), List.getElem?_eq_none (by rw [List.length_map, List.length_reverse]; omega)]
theorem digit_at (d : BitVec 8) (h : d.toNat < 58) (w : World) : (Instr.index 9 (.string (strB alph58)) (.int .u8 (iv8 d))).run Tryd.prog w = .ok (.int .u8 (iv8 (dig58 d.toNat))) w := by
  have hk : d.toNat < (strB alph58).size := by rw [strB_size]; exact h
  have hx : alph58[d.toNat]? = some (dig58 d.toNat) := by
    unfold dig58
    rw [List.getD_eq_getElem?_getD, List.getElem?_eq_getElem (show d.toNat < alph58.length from h)]; rfl
  have ha := strB_at alph58 d.toNat _ hx hk
  unfold iv8 at ha ⊢
  rw [run_index_string w _ _ _ _ Tryd.underlying9]
  simp [hk, ha]
theorem stepD (y d : Nat) (hy : y < 256) (hd : d < 58) : wrap64 (d : Int) = (d : Int) ∧ wrap64 ((d : Int) * 256) = (d : Int) * 256 ∧ wrap64 ((y : Int) + (d : Int) * 256) = (y : Int) + (d : Int) * 256 ∧
    ((y : Int) + (d : Int) * 256).tdiv 58 = (((y + 256 * d) / 58 : Nat) : Int) ∧ wrap64 (((y + 256 * d) / 58 : Nat) : Int) = (((y + 256 * d) / 58 : Nat) : Int) ∧
    ((y : Int) + (d : Int) * 256).tmod 58 % 256 = iv8 (BitVec.ofNat 8 ((y + 256 * d) % 58)) := by
  refine ⟨wrap64_self _ (by omega) (by omega), wrap64_self _ (by omega) (by omega), wrap64_self _ (by omega) (by omega), ?_, wrap64_self _ (by omega) (by omega), ?_⟩
  · rw [Int.tdiv_eq_ediv_of_nonneg (by omega)]; omega
  · rw [Int.tmod_eq_emod_of_nonneg (by omega)]
    unfold iv8; rw [BitVec.toNat_ofNat]; omega
theorem remB (y : Nat) (hy : y < 256) : (y : Int).tmod 58 % 256 = iv8 (BitVec.ofNat 8 (y % 58)) ∧ (y : Int) % 58 % 256 = iv8 (BitVec.ofNat 8 (y % 58)) ∧ (y : Int) % 58 = iv8 (BitVec.ofNat 8 (y % 58)) := by
  have h : (y : Int).tmod 58 = (y : Int) % 58 := Int.tmod_eq_emod_of_nonneg (by omega)
  have h2 : iv8 (BitVec.ofNat 8 (y % 58)) = (y : Int) % 58 := by unfold iv8; rw [BitVec.toNat_ofNat]; omega
  rw [h, h2]
  exact ⟨by omega, by omega, rfl⟩

set_option maxRecDepth 100000 in
set_option maxHeartbeats 8000000 in
theorem base58_any (p : Option Addr) (n c : Nat) (bs : List (BitVec 8)) (w : World) (hr : Row8 w p bs) (hn : bs.length = n) (hnc : n ≤ c) :
    Calls Tryd.prog 8 #[.slice p n c] w fun e w' => e = .returned (.string (strB (b58 bs))) ∧ Below w.heap.size w w' := by
  have HN := Lib.hid hn
  by_cases hbig : 200 < n
  · have HX : Hid (b58 bs = []) := Lib.hid (by unfold b58; rw [if_pos (by omega)])
    have hlt : (200 : Int) < (n : Int) := by omega
    clear hn hr
    go_enter Tryd.func8, Tryd.ntmps8
    go_wp2_with fail
    go_ret
    exact ⟨by rw [HX.out]; rfl, Below.refl _ _⟩
  have hlt : ¬ (200 : Int) < (n : Int) := by omega
  have HX : Hid (b58 bs = List.replicate (lead (nats bs)) 49#8 ++ (digs 58 (valN 256 (nats bs))).reverse.map dig58) := Lib.hid (by unfold b58; rw [if_neg (by omega)])
  have hn200 : n ≤ 200 := by omega
  have HR := Lib.hid hr
  have htr := trim0_any p n c bs w hr hn hnc (by omega)
  clear hn hbig hr
  refine calls_marks Tryd.func8 rfl ?_
  simp only [Tryd.ntmps8, List.size_toArray, List.length_cons, List.length_nil, Nat.reduceAdd, Nat.reduceSub, Array.replicate_succ, Array.replicate_zero, List.push_toArray, List.append_toArray, List.nil_append, List.cons_append]
  go_wp2_with fail
  refine htr.mono ?_
  rintro e w' ⟨⟨tq, tm, td, rfl, ht⟩, hw'⟩
  replace hw' := hw'.symm
  subst hw'
  obtain ⟨A, hA⟩ : ∃ A, A = lead (nats bs) := ⟨_, rfl⟩
  have HA : Hid (tm + A = n) := Lib.hid (by rw [hA]; exact ht.out)
  rw [← hA] at HX
  have hA200 : A ≤ 200 := by have := HA.out; omega
  have HAZ : Hid (wrap64 ((n : Int) - (tm : Int)) = (A : Int)) := Lib.hid (wrapZ _ _ (by have := HA.out; omega) (by omega))
  clear hA htr ht
  go_upto_region 4 with fail
  rw [HAZ.out]
  go_wp2_with fail
  go_loopw [4, 23] (fun v i wx => ∃ k : Nat, k ≤ n ∧ i = .int .i64 k ∧ Hid (Own8 wx w.heap.size v (ofNats (low58 bs k))) ∧ Hid (Below w.heap.size w wx)) (fun _ i _ => n - (intOf i).toNat)
  case atStart => exact ⟨0, by omega, rfl, Lib.hid (by unfold low58; rw [List.take_zero, show valN 256 [] = 0 from rfl, digs_zero]; exact Own8.nil _ _), Lib.hid (Below.refl _ _)⟩
  case round =>
    obtain ⟨k, hk, rfl, ho, hb⟩ := hrel
    obtain ⟨q, m, cap, rfl, hm, hl3, hm3, hr3⟩ := ho.out.open
    by_cases hkn : k < n
    · have hkl : (k : Int) < (n : Int) := by omega
      obtain ⟨x, hx⟩ : ∃ x, bs[k]? = some x := ⟨_, List.getElem?_eq_getElem (by rw [HN.out]; exact hkn)⟩
      obtain ⟨bb, of, rfl, _, hcl⟩ := (HR.out.fut hb.out) (fun e => by rw [e] at hx; cases hx)
      have hcell : wr.cell? ⟨bb, of + k, none⟩ = some (.int .u8 (iv8 x)) := hcl k x hx
      have HS := Lib.hid (low58_succ hx)
      have hx256 : x.toNat < 256 := x.isLt
      have hiv : iv8 x = (x.toNat : Int) := rfl
      rw [hiv] at hcell
      obtain ⟨X, hX⟩ : ∃ X, X = x.toNat := ⟨_, rfl⟩
      rw [← hX] at hcell HS hx256
      obtain ⟨D, hD⟩ : ∃ D, D = low58 bs k := ⟨_, rfl⟩
      have HDL : Hid (∀ d ∈ D, d < 58) := Lib.hid (by rw [hD]; exact low58_lt bs k)
      have HDN : Hid (D.length ≤ 300) := Lib.hid (by rw [hD]; exact low58_len bs k (by omega))
      rw [← hD] at ho HS hm
      have hmD : Hid (m = D.length) := Lib.hid (by rw [← hm.out, ofNats_len])
      have hm300 : m ≤ 300 := by have := HDN.out; have := hmD.out; omega
      have HX256 := Lib.hid hx256
      clear hX hD hm hx hcl hr3 hiv
      go_upto_region 9 with fail
      try rw [wrap64_self (X : Int) (by omega) (by omega)]
      clear hcell hx256
      go_wp2_with fail
      go_loopw [7, 31] (fun cv i wx => ∃ (j y : Nat) (done : List Nat), j ≤ m ∧ cv = .int .i64 y ∧ i = .int .i64 j ∧ Hid (InDig D X j y done) ∧ Hid (Own8 wx w.heap.size (.slice q m cap) (ofNats (done ++ D.drop j))) ∧ Hid (Below w.heap.size w wx)) (fun _ i _ => m - (intOf i).toNat)
      case atStart => exact ⟨0, X, [], by omega, rfl, rfl, Lib.hid ⟨rfl, rfl, HX256.out⟩, ho, hb⟩
      case round =>
        obtain ⟨j, y, done, hj, rfl, rfl, HI, HO2, HB2⟩ := hrel
        by_cases hjm : j < m
        · have hjl : (j : Int) < (m : Int) := by omega
          obtain ⟨d, hdd⟩ : ∃ d, D[j]? = some d := ⟨_, List.getElem?_eq_getElem (by rw [← hmD.out]; exact hjm)⟩
          have hd2 := HDL.out d (List.mem_of_getElem? hdd)
          have hstep := HI.out.step HDL.out hdd
          have hrow := HI.out.row hdd ((y + 256 * d) % 58)
          obtain ⟨g, cap', he, hgB, hgl, hcc, hcells, hfz⟩ := HO2.out.some (fun e => by have := hrow.2; rw [e] at this; cases this)
          obtain rfl : q = some ⟨g, 0, none⟩ := by injection he
          have hcell := hcells j _ hrow.2
          have hfz := hfz j
          have hy := HI.out.carry
          have hiv : iv8 (BitVec.ofNat 8 d) = (d : Int) := by unfold iv8; rw [BitVec.toNat_ofNat, Nat.mod_eq_of_lt (by omega)]
          rw [hiv] at hcell
          have HST := Lib.hid hstep
          have HRW := Lib.hid hrow.1
          have HY := Lib.hid hy
          have HD2 := Lib.hid hd2
          clear hstep hrow hcells hdd he hcc hgl hy hiv hd2
          go_wp2_with fail
          go_roundw
          case rel =>
            obtain ⟨h0, h1, h2, h3, h4, h5⟩ := stepD y d HY.out HD2.out
            rw [h0, h1, h2, h3, h4, h5]
            exact ⟨j + 1, (y + 256 * d) / 58, done ++ [(y + 256 * d) % 58], by omega, rfl, by go_num, HST, Lib.hid (by rw [← HRW.out]; exact HO2.out.put j _), Lib.hid (HB2.out.setCell hgB _)⟩
          case measure => simp [intOf]; omega
        · have hjl : ¬ (j : Int) < (m : Int) := by omega
          have hjD : Hid (D.drop j = []) := Lib.hid (List.drop_eq_nil_of_le (by rw [← hmD.out]; omega))
          have HY := Lib.hid HI.out.carry
          have HE : Hid (low58 bs (k + 1) = done ++ digs 58 y) := Lib.hid (by rw [HS.out, HI.out.eq, hjD.out, muls])
          have HLN : Hid ((low58 bs (k + 1)).length ≤ 300) := Lib.hid (low58_len bs (k + 1) (by omega))
          have HO3 : Hid (Own8 wr w.heap.size (.slice q m cap) (ofNats done)) := Lib.hid (by have := HO2.out; rwa [hjD.out, List.append_nil] at this)
          clear hjD HI HO2
          go_wp2_with fail
          go_loopw [4, 7] (fun v cv wx => ∃ (dn : List Nat) (z : Nat), cv = .int .i64 z ∧ z < 256 ∧ Hid (low58 bs (k + 1) = dn ++ digs 58 z) ∧ Hid (Own8 wx w.heap.size v (ofNats dn)) ∧ Hid (Below w.heap.size w wx)) (fun _ cv _ => (intOf cv).toNat)
          case atStart => exact ⟨done, y, rfl, HY.out, HE, HO3, HB2⟩
          case round =>
            obtain ⟨dn, z, rfl, hz, HE2, HO4, HB4⟩ := hrel
            by_cases hz0 : z = 0
            · subst hz0
              have HE3 : Hid (low58 bs (k + 1) = dn) := Lib.hid (by rw [HE2.out, digs_zero, List.append_nil])
              have HB5 := HB4.out
              clear HB4 hz
              go_wp2_with fail
              go_roundw
              case rel => exact ⟨k + 1, by omega, by go_num, Lib.hid (by rw [HE3.out]; exact HO4.out), Lib.hid HB5⟩
              case measure => simp [intOf]; omega
            · have hzp : (0 : Int) < (z : Int) := by omega
              have HE3 : Hid (low58 bs (k + 1) = (dn ++ [z % 58]) ++ digs 58 (z / 58)) := Lib.hid (by rw [HE2.out, digs_pos (by omega) hz0, List.append_assoc]; rfl)
              have HRM := Lib.hid (remB z hz)
              have hdl : (ofNats dn).length + 1 ≤ 140737488355328 := by rw [ofNats_len]; have h1 := HLN.out; rw [HE2.out, List.length_append] at h1; omega
              have hsz2 : w.heap.size ≤ wr.heap.size := HB4.out.size
              have HZ := Lib.hid hz
              clear hz0
              go_upto_region 18 with fail
              have hb3 := HB4.out.alloc hsz2 (.cells #[.int .u8 ((z : Int) % 58)] 5)
              have hsz3 := hb3.size
              have ho3 := HO4.out.alloc (.cells #[.int .u8 ((z : Int) % 58)] 5)
              have hrow3 : Row8 (wr.alloc (.cells #[.int .u8 ((z : Int) % 58)] 5)) (some ⟨wr.heap.size, 0, none⟩) [BitVec.ofNat 8 (z % 58)] := by rw [HRM.out.2.2]; exact new_one wr (BitVec.ofNat 8 (z % 58))
              go_wp2_with ((with_reducible refine wp_append8 (o := ⟨some 60, _, _, _, _, _⟩) ?_ ((.tmp 55)) ((.tmp 59)) ?_ (w.heap.size) _ ((ofNats dn)) ?_ (ho3) ((some ⟨wr.heap.size, 0, none⟩)) (1) (1) ([BitVec.ofNat 8 (z % 58)]) ?_ (rfl) (hrow3) ?_ (hsz3) (w.heap.size) (w) (hb3) ?_ ?_
                            · rfl
                            · rfl
                            · rfl
                            · rfl
                            · exact hdl
                            · exact Nat.le_refl _
                            intro v4 w4 ho4 hb4 hg4 hs4))
              go_roundw
              case rel => exact ⟨dn ++ [z % 58], z / 58, by rw [Int.natCast_ediv]; rfl, by have := HZ.out; omega, HE3, Lib.hid (by rw [ofNats_app, ofNats_one]; exact ho4), Lib.hid hb4⟩
              case measure => simp [intOf]; omega
    · have hkl : ¬ (k : Int) < (n : Int) := by omega
      have HL : Hid (low58 bs k = digs 58 (valN 256 (nats bs))) := Lib.hid (by unfold low58; rw [List.take_of_length_le (by rw [List.length_map, HN.out]; omega)])
      have HL3 : Hid ((low58 bs k).length ≤ 300) := Lib.hid (low58_len bs k (by omega))
      have HR2 : Hid (b58 bs = List.replicate A 49#8 ++ (low58 bs k).reverse.map dig58) := Lib.hid (by rw [HX.out, HL.out])
      have HLT : Hid (∀ d ∈ low58 bs k, d < 58) := Lib.hid (low58_lt bs k)
      obtain ⟨D, hD⟩ : ∃ D, D = low58 bs k := ⟨_, rfl⟩
      rw [← hD] at ho HR2 HLT HL3 hm hr3
      clear HL hD hk
      have hr3' := hr3
      go_upto_region 21 with fail
      have HB0 := Lib.hid (Bld.fresh wr wr.heap.size (Nat.le_refl _))
      have hbw := hb.out.alloc hb.out.size (.cells #[.pointer none, .slice none 0 0] 38)
      have hofut := ho.out.fut (below_new wr (.cells #[.pointer none, .slice none 0 0] 38))
      obtain ⟨b, hbd⟩ : ∃ b, b = wr.heap.size := ⟨_, rfl⟩
      obtain ⟨wb, hwb⟩ : ∃ wb, wb = wr.alloc (.cells #[.pointer none, .slice none 0 0] 38) := ⟨_, rfl⟩
      have hwsz : b < wb.heap.size := by rw [hwb, World.size_alloc, hbd]; omega
      have HBW := Lib.hid (And.intro hb.out.size hwsz)
      rw [← hwb, ← hbd] at HB0 ⊢
      rw [← hwb] at hbw hofut
      have HBB := Lib.hid hbd
      have hbr : Below wr.heap.size wr wb := by rw [hwb]; exact below_new wr _
      clear hbd hwb hwsz ho hb
      go_wp2_with fail
      refine (rep_any A wb hA200).mono ?_
      rintro e w2 ⟨rfl, hb2⟩
      have hbw2 := below_fut hbw hb2 (Nat.le_refl _)
      have ho2 := hofut.fut hb2
      have hwl : b ≤ w2.heap.size := by have := HBW.out; have := hb2.size; omega
      have hws := wstr_any b b [] (List.replicate A 49#8) w2 (HB0.out.fut hb2) (by rw [List.length_replicate]; show 0 + A ≤ _; omega) hwl
      obtain ⟨RS, hRS⟩ : ∃ RS, RS = strB (List.replicate A 49#8) := ⟨_, rfl⟩
      rw [← hRS] at hws ⊢
      have hbr2 := below_fut hbr hb2 (Nat.le_refl _)
      clear hRS hbw hb2 hofut HB0 hbr
      go_wp2_with fail
      refine hws.mono ?_
      rintro e w3 ⟨rfl, hB3, hb3, hk3⟩
      have HB3 := Lib.hid hB3
      have hbw3 := hbw2.trans (hb3.mono (Nat.le_trans HBW.out.1 (by have := HBB.out; omega)))
      have hbr3 : Below wr.heap.size wr w3 := hbr2.trans (by rw [← HBB.out]; exact hb3)
      have hr4 := hr3.below hbr3 (Nat.le_refl _)
      have HBW3 := Lib.hid hbw3
      have hb3s : b < w3.heap.size := by have := HBW.out.2; have := hbr3.size; have h := hB3; have := (by rcases hB3 with h | h <;> exact Lib.BuilderAtF.lt h : b < w3.heap.size); exact this
      have h58 : ∀ i, ((ofNats D).getD i 0#8).toNat < 58 := fun i => by
        rw [List.getD_eq_getElem?_getD]
        cases hx : (ofNats D)[i]? with
        | none => decide
        | some x =>
          obtain ⟨d, hd, rfl⟩ := List.mem_map.1 (List.mem_of_getElem? hx)
          have := HLT.out d hd
          show (BitVec.ofNat 8 d).toNat < 58
          rw [BitVec.toNat_ofNat, Nat.mod_eq_of_lt (by omega)]; exact this
      have hmD : m = (ofNats D).length := hm.out.symm
      obtain ⟨g, off, hgq, hgb, hgb2, hgc⟩ : ∃ g off, (m ≠ 0 → q = some ⟨g, off, none⟩) ∧ g ≤ b ∧ (m ≠ 0 → g < b) ∧ (∀ j, j < m → w3.cell? ⟨g, off + j, none⟩ = some (.int .u8 (iv8 ((ofNats D).getD j 0#8)))) := by
        by_cases h0 : m = 0
        · exact ⟨b, 0, fun h => absurd h0 h, Nat.le_refl _, fun h => absurd h0 h, fun j hj => by omega⟩
        · obtain ⟨g, off, e, hlt, hcc⟩ := hr3' (fun e => by rw [e] at hmD; exact h0 hmD)
          have hgb : g < b := by rw [HBB.out]; exact hlt
          refine ⟨g, off, fun _ => e, Nat.le_of_lt hgb, fun _ => hgb, fun j hj => ?_⟩
          have hx : (ofNats D)[j]? = some ((ofNats D).getD j 0#8) := by rw [List.getD_eq_getElem?_getD, List.getElem?_eq_getElem (by rw [← hmD]; exact hj)]; rfl
          exact (hbr3.cell (p := ⟨g, off + j, none⟩) hlt).trans (hcc j _ hx)
      have HMD := Lib.hid hmD
      clear hmD
      go_wp2_with fail
      refine (back_any q m cap w3).mono ?_
      rintro e w4 ⟨rfl, rfl⟩
      go_wp2_with fail
      have hmD := HMD.out
      obtain ⟨Bs, hBs⟩ : ∃ Bs, Bs = w3.heap.size := ⟨_, rfl⟩
      obtain ⟨W4, hW4⟩ : ∃ W, W = w3.alloc (.cells #[.slice q m cap] 22) := ⟨_, rfl⟩
      have hWs : W4.heap.size = Bs + 1 := by rw [hW4, World.size_alloc, hBs]
      have hbox : W4.heap[Bs]? = some (.cells #[.slice q m cap] 22 (0, 0)) := by rw [hW4, hBs]; exact Blk.new w3 _ _
      have hn4 := below_new w3 (.cells #[.slice q m cap] 22)
      rw [← hW4] at hn4
      have hBld4 := HB3.out.fut hn4
      have hbel4 := below_fut hbw3 hn4 (Nat.le_refl _)
      have hws := hbel4.size
      have hgc4 : ∀ j, j < m → W4.cell? ⟨g, off + j, none⟩ = some (.int .u8 (iv8 ((ofNats D).getD j 0#8))) := fun j hj => (hn4.cell (p := ⟨g, off + j, none⟩) (by show g < _; omega)).trans (hgc j hj)
      rw [← hW4, ← hBs]
      have hbs : b < Bs := by rw [hBs]; exact hb3s
      have hboxc : W4.cell? ⟨Bs, 0, none⟩ = some (.slice q m cap) := by simp [World.cell?, hbox]
      have hm300 : m ≤ 300 := by rw [hmD, ofNats_len]; exact HL3.out
      have hwb : w.heap.size ≤ b := by have := HBW.out.1; rw [HBB.out]; exact this
      refine (wpIn_wide (n := 10)).1 ?_
      refine wpIn_rangeFunc_ownG (n := 10) (F := Fence.wide) rfl (by decide) (gf := 46) (lb := #[.pointer (some ⟨Bs, 0, none⟩)]) rfl trivial (enters_of Tryd.func46 (by kernel_rfl) rfl)
        (back_stops Fence.wide 9 trivial rfl (by decide) Bs g off m cap q (ofNats D) h58 hmD.symm (by omega) hgq W4 (by omega) (by omega) hboxc hgc4)
        (fun h k => h.trans k) (fun W l o o' hl _ _ _ => KpB.putObj W l o' (by omega) (by omega)) (Below.refl _ _) (fun _ => rfl)
        (fun (pre : List P58) W => (Bld W b b (([] ++ List.replicate A 49#8) ++ pre.map fun x => dig58 x.1.2.toNat) ∧ W.heap[Bs]? = some (.cells #[.slice q m cap] 22 (0, 0))) ∧ Below w.heap.size w W)
        (fun _ _ _ => False)
        (OwnFrom.and (fun s W W' row hs hg hr => ⟨hs.1.turn hg (fun r e => (hr r e).2), (hg.block Bs (Array.getElem?_eq_some_iff.1 hs.2).1 (fun e => by
          obtain ⟨o, ho, hc⟩ := (hr Bs e.symm).2
          rw [hs.2] at ho; injection ho with ho; rw [← ho] at hc; cases hc)).trans hs.2⟩) (ownFrom_below (Nat.le_refl _) (by omega)))
        (fun _ _ _ _ _ hs _ _ => hs)
        ⟨⟨by rw [List.map_nil, List.append_nil]; exact hBld4, hbox⟩, hbel4⟩ ?a1 ?assign ?body ?done ?stop
      case assign =>
        intro l x W K hK
        gi_wp2
        exact hK
      case body =>
        rintro l pre x W ⟨⟨hB, hbx⟩, hbl⟩ hlt
        have hix := fun V => digit_at x.1.2 x.2 V
        rw [str58] at hix
        unfold U58 at hix
        obtain ⟨dd, hdd⟩ : ∃ dd, dd = dig58 x.1.2.toNat := ⟨_, rfl⟩
        simp only [← hdd] at hix
        have hsz : b ≤ W.heap.size := by have := (Array.getElem?_eq_some_iff.1 hbx).1; omega
        have hwb2 := wbyte_any b b _ dd W hB (by
          simp only [List.length_append, List.length_nil, List.length_replicate, List.length_map]; omega) hsz
        have HDD := Lib.hid hdd
        clear hdd
        gi_wp2_with (refine ⟨trivial, ?_⟩; refine (CallsIn.inRound l (callsIn_wide.2 hwb2)).mono ?_; rintro e W2 ⟨rfl, hB2, hbb2, hok2⟩)
        have hbx2 : W2.heap[Bs]? = some (.cells #[.slice q m cap] 22 (0, 0)) := hok2 Bs _ hbx (by intro e; injection e with e; omega) (by intro c fz e; injection e with _ e _; revert e; decide)
        have hkf : KeepsFrom W4.heap.size W W2 := ⟨hbb2.size, fun k o hk ho hc => hok2 k o ho (by intro e; injection e with e; omega) (by intro c fz e; rw [e] at hc; cases hc)⟩
        have hkp : KpB Bs g W W2 := ⟨hbx2.trans hbx.symm, hbb2.block g (hgb2 (by intro e; rw [e] at hlt; omega))⟩
        refine ⟨hkf, hkp, ⟨?_, hbx2⟩, hbl.trans (hbb2.mono hwb)⟩
        rw [List.map_append, ← List.append_assoc]
        rw [HDD.out] at hB2
        exact hB2
      case done =>
        rintro DD ys W hDD rfl ⟨⟨hB, hbx⟩, hbl⟩ hK
        have hsz : b ≤ W.heap.size := by have := (Array.getElem?_eq_some_iff.1 hbx).1; omega
        have hst := bstr_any b b _ W hB hsz
        have HS : Hid ((([] ++ List.replicate A 49#8) ++ (uptoN (backF (ofNats D) h58) m).map fun x => dig58 x.1.2.toNat) = b58 bs) := Lib.hid (by
          rw [HR2.out, List.nil_append]
          congr 1
          exact back_digits D HLT.out h58 m hmD)
        rw [HS.out] at hst
        clear hB HS
        go_wp2_with fail
        refine hst.mono ?_
        rintro e W2 ⟨rfl, hbb2, hok2⟩
        have hK2 : W2.heap[DD]? = some (.deferred (some [])) := hok2 DD _ hK (by intro e; injection e with e; omega) (by intro c fz e; cases e)
        go_wp2_with fail
        refine ⟨by simp, .inl ⟨_, _, rfl, run_takeDeferred hK2, ?_⟩⟩
        exact ⟨_, results_tmp rfl _ _ _, rfl, (hbl.trans (hbb2.mono hwb)).trans (belowK_b (w := w) (Nat.le_refl _) W2 DD _ _ (by omega) hK2 rfl rfl)⟩
      case stop =>
        rintro D c pre W _ _ h _
        exact h.elim
end Go.Proofs.YtbkpgdfkjijagaaDoor
