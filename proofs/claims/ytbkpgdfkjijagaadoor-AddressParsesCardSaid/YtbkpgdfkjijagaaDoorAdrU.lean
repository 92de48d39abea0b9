/- address.Unbase58: the walk. -/
import Derived.Test.YtbkpgdfkjijagaaDoorAdrL
import Derived.Test.YtbkpgdfkjijagaaDoorAdrR
namespace Go.Proofs.YtbkpgdfkjijagaaDoor
open Go.RowKit
set_option linter.unusedVariables false

/-! ### plain -/
/-- the bytes of the digits so far, the lowest first -/
def lowB (s : List (BitVec 8)) (i : Nat) : List Nat := digs 256 (valN 58 ((s.map pl58).take i))
theorem lowB_succ {s : List (BitVec 8)} {i : Nat} {c : BitVec 8} (h : s[i]? = some c) : lowB s (i + 1) = muls 256 58 (lowB s i) (pl58 c) := by
  unfold lowB
  rw [List.take_add_one, List.getElem?_map, h, muls_digs (by omega) (by omega)]
  show digs 256 (valN 58 ((s.map pl58).take i ++ [pl58 c])) = _
  rw [valN_app]
theorem lowB_lt (s : List (BitVec 8)) (i : Nat) : ∀ d ∈ lowB s i, d < 256 := digs_lt (by omega) _
theorem lowB_len (s : List (BitVec 8)) (i : Nat) (h : ∀ c ∈ s.take i, pl58 c < 58) : (lowB s i).length ≤ i := by
  refine digs_len_le (by omega) _ _ ?_
  have h1 : valN 58 ((s.map pl58).take i) < 58 ^ ((s.map pl58).take i).length := valN_lt (by omega) _ (fun d hd => by
    rw [← List.map_take] at hd
    obtain ⟨x, hx, rfl⟩ := List.mem_map.1 hd
    exact h x hx)
  have h2 : ((s.map pl58).take i).length ≤ i := by rw [List.length_take]; omega
  exact Nat.lt_of_lt_of_le h1 (Nat.le_trans (Nat.pow_le_pow_right (by omega) h2) (Nat.pow_le_pow_left (by omega) i))
/-- within a round: so many bytes are done -/
structure In58 (D : List Nat) (x k c : Nat) (done : List Nat) : Prop where
  len : done.length = k
  eq : muls 256 58 D x = done ++ muls 256 58 (D.drop k) c
  carry : c < 58
theorem In58.step {D : List Nat} {x k c d : Nat} {done : List Nat} (h : In58 D x k c done) (hD : ∀ d ∈ D, d < 256) (hd : D[k]? = some d) : In58 D x (k + 1) ((c + 58 * d) / 256) (done ++ [(c + 58 * d) % 256]) := by
  obtain ⟨hk, hd2⟩ := List.getElem?_eq_some_iff.1 hd
  have h1 := hD d (List.mem_of_getElem? hd)
  have h2 := h.carry
  refine ⟨by rw [List.length_append, h.len]; rfl, ?_, by omega⟩
  rw [h.eq, List.drop_eq_getElem_cons hk, hd2, muls, List.append_assoc]
  rfl
theorem In58.row {D : List Nat} {x k c d : Nat} {done : List Nat} (h : In58 D x k c done) (hd : D[k]? = some d) (y : Nat) : (ofNats (done ++ D.drop k)).set k (BitVec.ofNat 8 y) = ofNats ((done ++ [y]) ++ D.drop (k + 1)) ∧ (ofNats (done ++ D.drop k))[k]? = some (BitVec.ofNat 8 d) := by
  obtain ⟨hk, hd2⟩ := List.getElem?_eq_some_iff.1 hd
  have e : D.drop k = d :: D.drop (k + 1) := by rw [List.drop_eq_getElem_cons hk, hd2]
  have hl := h.len
  constructor
  · unfold ofNats
    rw [e, List.map_append, List.map_append, List.map_append, List.map_cons, List.set_append_right _ _ (by rw [List.length_map]; omega), List.length_map, hl, Nat.sub_self, List.append_assoc]
    rfl
  · unfold ofNats
    rw [e, List.map_append, List.getElem?_append_right (by rw [List.length_map]; omega), List.length_map, hl, Nat.sub_self]
    rfl
theorem ofNats_app (a b : List Nat) : ofNats (a ++ b) = ofNats a ++ ofNats b := List.map_append
theorem ofNats_len (a : List Nat) : (ofNats a).length = a.length := List.length_map _
theorem ofNats_one (y : Nat) : ofNats [y] = [BitVec.ofNat 8 y] := rfl
theorem new_one (w : World) (b : BitVec 8) : Row8 (w.alloc (.cells #[.int .u8 (iv8 b)] 5)) (some ⟨w.heap.size, 0, none⟩) [b] := fun _ =>
  ⟨_, 0, rfl, by simp, fun i x hx => by
    rw [(Blk.new w _ _).cell]
    cases i with
    | zero => simp at hx ⊢; rw [hx]
    | succ i => simp at hx⟩
/-- make([]byte, j) -/
theorem makeB (w : World) (j : Nat) (h : j ≤ 140737488355328) : (Instr.makeSlice 22 (.int .i64 (j : Int)) (.int .i64 (j : Int))).run Tryd.prog w = .ok (.slice (some ⟨w.heap.size, 0, none⟩) j j) (w.alloc (.cells ((List.replicate j 0#8).map u8).toArray 5)) := by
  obtain ⟨i0, hi, hz0, hz1, hz2⟩ := info_parts u8info
  have hr := run_make (P := Tryd.prog) w 22 5 i0 (.int .u8 0) Tryd.underlying22 hi hz0 .i64 .i64 (j : Int) (j : Int) (by omega) (Int.le_refl _) (by rw [hz2]; omega) (by omega)
  rw [hr, Int.toNat_natCast, hz1, Nat.mul_one]
  have e : madeCells (Value.int IntKind.u8 0).cells j = ((List.replicate j 0#8).map u8).toArray := by
    unfold madeCells
    refine Array.ext' ?_
    refine List.ext_getElem (by simp) fun i h1 h2 => ?_
    simp [Value.cells, u8, iv8, Nat.mod_one]
  rw [e]
theorem own_makeB (w : World) (B j : Nat) (hB : B ≤ w.heap.size) (hj : j ≤ 140737488355328) : Own8 (w.alloc (.cells ((List.replicate j 0#8).map u8).toArray 5)) B (.slice (some ⟨w.heap.size, 0, none⟩) j j) (List.replicate j 0#8) :=
  ⟨by simp, .inr ⟨w.heap.size, j, _, by simp, hB, Blk.new w _ _, by simp, by unfold maxLen; omega, by simp, by
    rw [Nat.mul_one, List.length_replicate]; exact List.take_of_length_le (by simp)⟩⟩
/-- the last byte of a number, as the walk writes it -/
theorem toByte (n : Nat) : (n : Int) % 256 = iv8 (BitVec.ofNat 8 (n % 256)) := by
  unfold iv8; rw [BitVec.toNat_ofNat]; omega
theorem step58 (y d : Nat) (hy : y < 58) (hd : d < 256) : wrap64 (d : Int) = (d : Int) ∧ wrap64 (58 * (d : Int)) = 58 * (d : Int) ∧ wrap64 ((y : Int) + 58 * (d : Int)) = (y : Int) + 58 * (d : Int) ∧
    ((y : Int) + 58 * (d : Int)) % 256 = iv8 (BitVec.ofNat 8 ((y + 58 * d) % 256)) ∧ ((y : Int) + 58 * (d : Int)) / 256 = (((y + 58 * d) / 256 : Nat) : Int) := by
  refine ⟨wrap64_self _ (by omega) (by omega), wrap64_self _ (by omega) (by omega), wrap64_self _ (by omega) (by omega), ?_, by omega⟩
  rw [← toByte (y + 58 * d)]
  congr 1

set_option maxRecDepth 100000 in
set_option maxHeartbeats 8000000 in
theorem unbase58_any (s : List (BitVec 8)) (w : World) :
    Calls Tryd.prog 6 #[.string (strB s)] w (DecB w (unb58 s)) := by
  have hsz : (strB s).size = s.length := strB_size s
  have HIX : Hid (∀ (k : Nat) (x : BitVec 8), s[k]? = some x → ∀ W, (Instr.index 9 (.string (strB s)) (.int .i64 (k : Int))).run Tryd.prog W = .ok (.int .u8 (iv8 x)) W) := Lib.hid (fun k x h W => strB_index s k x h W)
  have HTR : Hid (∀ W, Calls Tryd.prog 15 #[.string (strB s), .string ⟨#[49]⟩] W fun e w' => (∃ T : ByteArray, e = .returned (.string T) ∧ Hid (T.size + lead (s.map pl58) = s.length)) ∧ w' = W) := Lib.hid (fun W => ones_any s W)
  have HPL : Hid (∀ c W, Calls Tryd.prog 14 #[.string (strB alph58), .int .u8 (iv8 c)] W fun e w' => e = .returned (.int .i64 (placeI alph58 c)) ∧ w' = W) := Lib.hid (fun c W => idx58_any c W)
  rw [str58] at HPL
  unfold U58 at HPL
  obtain ⟨S, hS⟩ : ∃ S, S = strB s := ⟨_, rfl⟩
  rw [← hS] at hsz HIX HTR ⊢
  clear hS
  obtain ⟨N, hN⟩ : ∃ N, N = s.length := ⟨_, rfl⟩
  rw [← hN] at hsz
  have HN := Lib.hid hN
  by_cases hbig : 300 < N
  · have HX : Hid (unb58 s = ([], 4)) := Lib.hid (by unfold unb58; rw [← hN, if_pos hbig])
    have hlt : (300 : Int) < (S.size : Int) := by omega
    clear hN
    go_enter Tryd.func6, Tryd.ntmps6
    go_wp2_with fail
    go_ret2
    rw [HX.out]
    exact ⟨_, rfl, Own8.nil _ _, Below.refl _ _⟩
  have hlt : ¬ (300 : Int) < (S.size : Int) := by omega
  have HX : Hid (unb58 s = if s.all (fun c => decide (pl58 c < 58)) then (List.replicate (lead (s.map pl58)) 0#8 ++ ofNats (digs 256 (valN 58 (s.map pl58))).reverse, 0) else ([], 140)) := Lib.hid (by unfold unb58; rw [← hN, if_neg hbig])
  clear hN
  go_enter Tryd.func6, Tryd.ntmps6
  go_wp2_with fail
  go_loopw [4, 14] (fun v i wr => ∃ k : Nat, k ≤ N ∧ i = .int .i64 k ∧ Hid (∀ c ∈ s.take k, pl58 c < 58) ∧ Hid (Own8 wr w.heap.size v (ofNats (lowB s k))) ∧ Hid (Below w.heap.size w wr)) (fun _ i _ => N - (intOf i).toNat)
  case atStart => exact ⟨0, by omega, rfl, Lib.hid (fun c hc => by simp at hc), Lib.hid (by unfold lowB; rw [List.take_zero, show valN 58 [] = 0 from rfl, digs_zero]; exact Own8.nil _ _), Lib.hid (Below.refl _ _)⟩
  case round =>
    obtain ⟨k, hk, rfl, hva, ho, hb⟩ := hrel
    by_cases hkn : k < N
    · have hkl : (k : Int) < (S.size : Int) := by rw [hsz]; omega
      obtain ⟨c, hc⟩ : ∃ c, s[k]? = some c := ⟨_, List.getElem?_eq_getElem (by rw [← HN.out]; exact hkn)⟩
      have hix := HIX.out k c hc
      have HC := Lib.hid hc
      clear hc
      go_wp2_with fail
      refine (HPL.out c wr).mono ?_
      rintro e w' ⟨rfl, hw'⟩
      replace hw' := hw'.symm
      subst hw'
      clear hix
      by_cases hd : pl58 c < 58
      case neg =>
        have HE : Hid (unb58 s = ([], 140)) := Lib.hid (by
          rw [HX.out, if_neg]
          intro h
          exact hd (of_decide_eq_true (List.all_eq_true.1 h c (List.mem_of_getElem? HC.out))))
        have hpl : placeI alph58 c = -1 := by rw [ix58, if_neg hd]
        rw [hpl]
        clear hd hpl
        go_wp2_with fail
        go_ret2
        rw [HE.out]
        exact ⟨_, rfl, Own8.nil _ _, hb.out⟩
      have hpl : placeI alph58 c = (pl58 c : Int) := by rw [ix58, if_pos hd]
      rw [hpl]
      have hva2 : Hid (∀ c ∈ s.take (k + 1), pl58 c < 58) := Lib.hid (fun y hy => by
        rw [List.take_add_one, HC.out] at hy
        rcases List.mem_append.1 hy with h | h
        · exact hva.out y h
        · rw [show y = c by simpa using h]; exact hd)
      have HS := Lib.hid (lowB_succ HC.out)
      obtain ⟨x, hx⟩ : ∃ x, x = pl58 c := ⟨_, rfl⟩
      rw [← hx] at hd HS ⊢
      obtain ⟨D, hD⟩ : ∃ D, D = lowB s k := ⟨_, rfl⟩
      have HDL : Hid (∀ d ∈ D, d < 256) := Lib.hid (by rw [hD]; exact lowB_lt s k)
      have HDN : Hid (D.length ≤ k) := Lib.hid (by rw [hD]; exact lowB_len s k hva.out)
      rw [← hD] at ho HS
      have hx0 : ¬ (x : Int) < 0 := by omega
      obtain ⟨q, n, cap, rfl, hn, hl3, hm3, hr3⟩ := ho.out.open
      have hnD : Hid (n = D.length) := Lib.hid (by rw [← hn.out, ofNats_len])
      have hD58 := Lib.hid hd
      clear hpl hx hD hn hr3 hd
      go_wp2_with fail
      go_loopw [6, 25] (fun cv i wr => ∃ (j y : Nat) (done : List Nat), j ≤ n ∧ cv = .int .i64 y ∧ i = .int .i64 j ∧ Hid (In58 D x j y done) ∧ Hid (Own8 wr w.heap.size (.slice q n cap) (ofNats (done ++ D.drop j))) ∧ Hid (Below w.heap.size w wr)) (fun _ i _ => n - (intOf i).toNat)
      case atStart => exact ⟨0, x, [], by omega, rfl, rfl, Lib.hid ⟨rfl, rfl, hD58.out⟩, ho, hb⟩
      case round =>
        obtain ⟨j, y, done, hj, rfl, rfl, HI, HO2, HB2⟩ := hrel
        by_cases hjn : j < n
        · have hjl : (j : Int) < (n : Int) := by omega
          obtain ⟨d, hdd⟩ : ∃ d, D[j]? = some d := ⟨_, List.getElem?_eq_getElem (by rw [← hnD.out]; exact hjn)⟩
          have hd2 := HDL.out d (List.mem_of_getElem? hdd)
          have hstep := HI.out.step HDL.out hdd
          have hrow := HI.out.row hdd ((y + 58 * d) % 256)
          obtain ⟨g, cap', he, hgB, hgl, hcc, hcells, hfz⟩ := HO2.out.some (fun e => by have := hrow.2; rw [e] at this; cases this)
          obtain rfl : q = some ⟨g, 0, none⟩ := by injection he
          have hcell := hcells j _ hrow.2
          have hfz := hfz j
          have hy := HI.out.carry
          have hiv : iv8 (BitVec.ofNat 8 d) = (d : Int) := by unfold iv8; rw [BitVec.toNat_ofNat, Nat.mod_eq_of_lt hd2]
          rw [hiv] at hcell
          have HW := Lib.hid (step58 y d hy hd2)
          have HST := Lib.hid hstep
          have HRW := Lib.hid hrow.1
          clear hstep hrow hcells hdd he hcc hgl hy hiv hd2
          go_wp2_with fail
          go_roundw
          case rel =>
            obtain ⟨hw0, hw1, hw2, hw3, hw4⟩ := HW.out
            rw [hw0, hw1, hw2, hw3, hw4]
            exact ⟨j + 1, (y + 58 * d) / 256, done ++ [(y + 58 * d) % 256], by omega, by go_num, by go_num, HST, Lib.hid (by rw [← HRW.out]; exact HO2.out.put j _), Lib.hid (HB2.out.setCell hgB _)⟩
          case measure => simp [intOf]; omega
        · have hjl : ¬ (j : Int) < (n : Int) := by omega
          have hjD : Hid (D.drop j = []) := Lib.hid (List.drop_eq_nil_of_le (by rw [← hnD.out]; omega))
          have hy := HI.out.carry
          have HE : Hid (lowB s (k + 1) = done ++ digs 256 y) := Lib.hid (by rw [HS.out, HI.out.eq, hjD.out, muls])
          have HO3 : Hid (Own8 wr w.heap.size (.slice q n cap) (ofNats done)) := Lib.hid (by have := HO2.out; rwa [hjD.out, List.append_nil] at this)
          by_cases hy0 : y = 0
          · subst hy0
            have HE2 : Hid (lowB s (k + 1) = done) := Lib.hid (by rw [HE.out, digs_zero, List.append_nil])
            have HB3 := HB2.out
            clear HB2
            go_wp2_with fail
            go_roundw
            case rel => exact ⟨k + 1, by omega, by go_num, hva2, Lib.hid (by rw [HE2.out]; exact HO3.out), Lib.hid HB3⟩
            case measure => simp [intOf]; omega
          · have hyp : (0 : Int) < (y : Int) := by omega
            have HE2 : Hid (lowB s (k + 1) = done ++ [y]) := Lib.hid (by rw [HE.out, digs_pos (by omega) hy0, Nat.mod_eq_of_lt (by omega), Nat.div_eq_of_lt (by omega), digs_zero])
            have hw3 := toByte y
            rw [Nat.mod_eq_of_lt (show y < 256 by omega)] at hw3
            have hsz2 : w.heap.size ≤ wr.heap.size := HB2.out.size
            have hb3 := HB2.out.alloc hsz2 (.cells #[.int .u8 ((y : Int) % 256)] 5)
            have hsz3 := hb3.size
            have ho3 := HO3.out.alloc (.cells #[.int .u8 ((y : Int) % 256)] 5)
            have hrow3 : Row8 (wr.alloc (.cells #[.int .u8 ((y : Int) % 256)] 5)) (some ⟨wr.heap.size, 0, none⟩) [BitVec.ofNat 8 y] := by rw [hw3]; exact new_one wr (BitVec.ofNat 8 y)
            clear hw3 hy0 hy
            have hdl : (ofNats done).length ≤ 400 := by rw [ofNats_len]; have h1 := HI.out.len; have h2 := HDN.out; have h3 := hnD.out; omega
            go_upto_region 18 with fail
            go_wp2_with ((with_reducible refine wp_append8 (o := ⟨some 50, _, _, _, _, _⟩) ?_ ((.tmp 46)) ((.tmp 49)) ?_ (w.heap.size) _ ((ofNats done)) ?_ (ho3) ((some ⟨wr.heap.size, 0, none⟩)) (1) (1) ([BitVec.ofNat 8 y]) ?_ (rfl) (hrow3) ?_ (hsz3) (w.heap.size) (w) (hb3) ?_ ?_
                          · rfl
                          · rfl
                          · rfl
                          · rfl
                          · (simp only [List.length_cons, List.length_nil]; omega)
                          · exact Nat.le_refl _
                          intro v4 w4 ho4 hb4 hg4 hs4))
            go_roundw
            case rel => exact ⟨k + 1, by omega, by go_num, hva2, Lib.hid (by rw [HE2.out, ofNats_app, ofNats_one]; exact ho4), Lib.hid hb4⟩
            case measure => simp [intOf]; omega
    · have hkl : ¬ (k : Int) < (S.size : Int) := by rw [hsz]; omega
      have hkN : k = N := by omega
      have HV : Hid (s.all (fun c => decide (pl58 c < 58)) = true) := Lib.hid (by
        rw [List.all_eq_true]
        intro c hc
        exact decide_eq_true (hva.out c (by rw [hkN, HN.out, List.take_length]; exact hc)))
      have HL : Hid (lowB s k = digs 256 (valN 58 (s.map pl58))) := Lib.hid (by unfold lowB; rw [List.take_of_length_le (by rw [List.length_map]; have := HN.out; omega)])
      have HR : Hid (unb58 s = (List.replicate (lead (s.map pl58)) 0#8 ++ (ofNats (lowB s k)).reverse, 0)) := Lib.hid (by rw [HX.out, if_pos HV.out, HL.out]; unfold ofNats; rw [List.map_reverse])
      have HLen : Hid ((ofNats (lowB s k)).length ≤ 300) := Lib.hid (by rw [ofNats_len]; have := lowB_len s k hva.out; omega)
      obtain ⟨D, hD⟩ : ∃ D, D = ofNats (lowB s k) := ⟨_, rfl⟩
      rw [← hD] at ho HR HLen
      clear hD hk
      go_wp2_with fail
      refine (HTR.out wr).mono ?_
      rintro e w' ⟨⟨T, rfl, hT⟩, hw'⟩
      replace hw' := hw'.symm
      subst hw'
      obtain ⟨a, ha⟩ : ∃ a, a = lead (s.map pl58) := ⟨_, rfl⟩
      rw [← ha] at hT HR
      have HA := Lib.hid ha
      have HAL : Hid (a ≤ 300) := Lib.hid (by have := hT.out; have := HN.out; omega)
      have hah : IntKind.i64.wrap ((N : Int) - (T.size : Int)) = (a : Int) := by have := hT.out; have := HN.out; rw [IntKind.wrap_i64]; omega
      obtain ⟨q, n, cap, rfl, hn, hl3, hm3, hr3⟩ := ho.out.open
      clear ha hn hl3 hm3 hr3
      go_upto_region 21 with fail
      clear hah
      go_wp2_with fail
      refine (reverse_any w.heap.size q n cap D wr ho.out).mono ?_
      rintro e w2 ⟨rfl, ho2, hb2⟩
      obtain ⟨q', n', c', e', hn2, hl3, hm3, hr3⟩ := ho2.open
      obtain ⟨rfl, rfl, rfl⟩ : q = q' ∧ n = n' ∧ cap = c' := by injection e' with a1 a2 a3; exact ⟨a1, a2, a3⟩
      have HB2 := Lib.hid (hb.out.trans hb2)
      have hsz2 := HB2.out.size
      have hmk := fun W => makeB W a (by have := HAL.out; omega)
      have ho3 := own_makeB w2 w.heap.size a hsz2 (by have := HAL.out; omega)
      obtain ⟨Z, hZ⟩ : ∃ Z, Z = ((List.replicate a 0#8).map u8).toArray := ⟨_, rfl⟩
      rw [← hZ] at ho3
      simp only [← hZ] at hmk
      have hb3 := HB2.out.alloc hsz2 (.cells Z 5)
      have hsz3 := hb3.size
      have hr4 := hr3.fut (below_new w2 (.cells Z 5))
      clear hZ
      have hal : (List.replicate a 0#8).length + D.reverse.length ≤ 140737488355328 := by rw [List.length_replicate, List.length_reverse]; have := HAL.out; have := HLen.out; omega
      clear e' ho2 hb2 hr3
      go_wp2_with ((with_reducible refine wp_append8 (o := ⟨some 63, _, _, _, _, _⟩) ?_ ((.tmp 61)) ((.tmp 62)) ?_ (w.heap.size) _ ((List.replicate a 0#8)) ?_ (ho3) (q) (n) (cap) (D.reverse) ?_ (hn2.out) (hr4) ?_ (hsz3) (w.heap.size) (w) (hb3) ?_ ?_
                    · rfl
                    · rfl
                    · rfl
                    · rfl
                    · exact hal
                    · exact Nat.le_refl _
                    intro v4 w4 ho4 hb4 hg4 hs4))
      go_ret2
      rw [HR.out]
      exact ⟨v4, rfl, ho4, hb4⟩
end Go.Proofs.YtbkpgdfkjijagaaDoor
