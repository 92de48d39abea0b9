/- sporranref14.Unbase58: the walk. -/
import Derived.Test.YtbkpgdfkjijagaaDoorAdrU
namespace Go.Proofs.YtbkpgdfkjijagaaDoor
open Go.RowKit
set_option linter.unusedVariables false

theorem strB_cut (T : List (BitVec 8)) (k : Nat) (h : k ≤ T.length) (w : World) : (Instr.sliceAt 9 (.string (strB T)) (some (.int .i64 (k : Int))) none none).run Tryd.prog w = .ok (.string (strB (T.drop k))) w := by
  rw [run_sliceAt_string w _ _ _ _ _ Tryd.underlying9, run_slice_string_l w _ _ Tryd.underlying9 _ _ (by omega) (by rw [strB_size]; omega)]
  congr 2
  apply ByteArray.ext
  apply Array.toList_inj.1
  rw [strB_data, List.map_drop, ← strB_data]
  simp [ByteArray.data_extract, strB_size]
  exact List.take_of_length_le (by rw [List.length_drop, strB_data, List.length_map]; exact Nat.le_refl _)
def strLen : Value → Nat
  | .string T => T.size
  | _ => 0
theorem ones_split {s : List (BitVec 8)} {k : Nat} (hk : k ≤ s.length) (h1 : s.take k = List.replicate k 49#8) (h2 : ∀ c, s[k]? = some c → c ≠ 49#8) : lead (s.map pl58) = k ∧ valN 58 (s.map pl58) = valN 58 ((s.drop k).map pl58) := by
  have e : s.map pl58 = List.replicate k 0 ++ (s.drop k).map pl58 := by
    conv => lhs; rw [← List.take_append_drop k s, h1]
    rw [List.map_append, List.map_replicate, show pl58 49#8 = 0 by decide +kernel]
  rw [e, valN_zeros]
  refine ⟨lead_app k _ fun x hx => ?_, rfl⟩
  rw [List.head?_map, List.head?_drop] at hx
  cases hc : s[k]? with
  | none => rw [hc] at hx; cases hx
  | some c =>
    rw [hc] at hx
    injection hx with hx
    rw [← hx]
    exact fun e => h2 c hc ((pl58_zero c).1 e)
theorem rev_put {L : List (BitVec 8)} {j n : Nat} (hn : L.length = n) (hj : j < n) (x : BitVec 8) : L.reverse.set (n - 1 - j) x = (L.set j x).reverse := by
  subst hn
  refine List.ext_getElem? fun t => ?_
  by_cases ht : t < L.length
  · rw [List.getElem?_set, List.getElem?_reverse ht, List.getElem?_reverse (by rw [List.length_set]; exact ht), List.length_set, List.getElem?_set, List.length_reverse]
    by_cases e : L.length - 1 - j = t
    · rw [if_pos e, if_pos (by omega), if_pos (by omega), if_pos hj]
    · rw [if_neg e, if_neg (by omega)]
  · rw [List.getElem?_eq_none (by rw [List.length_set, List.length_reverse]; omega), List.getElem?_eq_none (by rw [List.length_reverse, List.length_set]; omega)]

theorem step58t (y d : Nat) (hy : y < 58) (hd : d < 256) : ((y : Int) + 58 * (d : Int)).tdiv 256 = (((y + 58 * d) / 256 : Nat) : Int) ∧ wrap64 (((y + 58 * d) / 256 : Nat) : Int) = (((y + 58 * d) / 256 : Nat) : Int) ∧
    ((y : Int) + 58 * (d : Int)).tmod 256 % 256 = iv8 (BitVec.ofNat 8 ((y + 58 * d) % 256)) := by
  refine ⟨by rw [Int.tdiv_eq_ediv_of_nonneg (by omega)]; omega, wrap64_self _ (by omega) (by omega), ?_⟩
  rw [Int.tmod_eq_emod_of_nonneg (by omega), ← toByte (y + 58 * d)]
  omega
theorem own_one (w : World) (B : Nat) (z : Int) (b : BitVec 8) (hz : z = iv8 b) (hB : B ≤ w.heap.size) : Own8 (w.alloc (.cells #[.int .u8 z] 5)) B (.slice (some ⟨w.heap.size, 0, none⟩) 1 1) [b] := by
  subst hz
  exact ⟨rfl, .inr ⟨w.heap.size, 1, #[u8 b], rfl, hB, Blk.new w _ _, Nat.le_refl _, by unfold maxLen; omega, rfl, rfl⟩⟩

set_option maxRecDepth 100000 in
set_option maxHeartbeats 8000000 in
theorem refUnbase58_any (s : List (BitVec 8)) (w : World) :
    Calls Tryd.prog 7 #[.string (strB s)] w (DecB w (unb58 s)) := by
  have hsz : (strB s).size = s.length := strB_size s
  have HIX : Hid (∀ (k : Nat) (x : BitVec 8), s[k]? = some x → ∀ W, (Instr.index 9 (.string (strB s)) (.int .i64 (k : Int))).run Tryd.prog W = .ok (.int .u8 (iv8 x)) W) := Lib.hid (fun k x h W => strB_index s k x h W)
  have HPL : Hid (∀ c W, Calls Tryd.prog 17 #[.string (strB alph58), .int .u8 (iv8 c)] W fun e w' => e = .returned (.int .i64 (placeI alph58 c)) ∧ w' = W) := Lib.hid (fun c W => place_any alph58 c W (by decide))
  rw [str58] at HPL
  unfold U58 at HPL
  obtain ⟨S, hS⟩ : ∃ S, S = strB s := ⟨_, rfl⟩
  rw [← hS] at hsz HIX ⊢
  have HSS := Lib.hid hS
  clear hS
  obtain ⟨N, hN⟩ : ∃ N, N = s.length := ⟨_, rfl⟩
  rw [← hN] at hsz
  have HN := Lib.hid hN
  by_cases hbig : 300 < N
  · have HX : Hid (unb58 s = ([], 4)) := Lib.hid (by unfold unb58; rw [← hN, if_pos hbig])
    have hlt : (300 : Int) < (S.size : Int) := by omega
    clear hN
    go_enter Tryd.func7, Tryd.ntmps7
    go_wp2_with fail
    go_ret2
    rw [HX.out]
    exact ⟨_, rfl, Own8.nil _ _, Below.refl _ _⟩
  have hlt : ¬ (300 : Int) < (S.size : Int) := by omega
  have HX : Hid (unb58 s = if s.all (fun c => decide (pl58 c < 58)) then (List.replicate (lead (s.map pl58)) 0#8 ++ ofNats (digs 256 (valN 58 (s.map pl58))).reverse, 0) else ([], 140)) := Lib.hid (by unfold unb58; rw [← hN, if_neg hbig])
  clear hN
  go_enter Tryd.func7, Tryd.ntmps7
  go_wp2_with fail
  go_loop [4] (fun i => ∃ k : Nat, k ≤ N ∧ i = .int .i64 k ∧ Hid (∀ c ∈ s.take k, pl58 c < 58)) (fun i => N - (intOf i).toNat)
  case atStart => exact ⟨0, by omega, rfl, Lib.hid (fun c hc => by simp at hc)⟩
  case round =>
    obtain ⟨k, hk, rfl, hva⟩ := hrel
    by_cases hkn : k < N
    · have hkl : (k : Int) < (S.size : Int) := by rw [hsz]; omega
      obtain ⟨c, hc⟩ : ∃ c, s[k]? = some c := ⟨_, List.getElem?_eq_getElem (by rw [← HN.out]; exact hkn)⟩
      have hix := HIX.out k c hc
      have HC := Lib.hid hc
      clear hc
      go_wp2_with fail
      refine (HPL.out c w).mono ?_
      rintro e w' ⟨rfl, hw'⟩
      replace hw' := hw'.symm
      subst hw'
      clear hix
      by_cases hd : pl58 c < 58
      case neg =>
        have HE : Hid (unb58 s = ([], 140)) := Lib.hid (by
          rw [HX.out, if_neg]
          intro h
          exact hd (of_decide_eq_true (List.all_eq_true.1 h c (List.mem_of_getElem? HC.out))))
        have hpl : placeI alph58 c = -1 := by rw [ix58, if_neg hd]
        rw [hpl]
        clear hd hpl
        go_wp2_with fail
        go_ret2
        rw [HE.out]
        exact ⟨_, rfl, Own8.nil _ _, Below.refl _ _⟩
      have hpl : placeI alph58 c = (pl58 c : Int) := by rw [ix58, if_pos hd]
      rw [hpl]
      have hva2 : Hid (∀ c ∈ s.take (k + 1), pl58 c < 58) := Lib.hid (fun y hy => by
        rw [List.take_add_one, HC.out] at hy
        rcases List.mem_append.1 hy with h | h
        · exact hva.out y h
        · rw [show y = c by simpa using h]; exact hd)
      have hx0 : ¬ (pl58 c : Int) < 0 := by omega
      clear hpl hd
      go_wp2_with fail
      go_round
      case rel => exact ⟨k + 1, by omega, by simp, hva2⟩
      case measure => simp [intOf]; omega
    have hkl : ¬ (k : Int) < (S.size : Int) := by rw [hsz]; omega
    have HV : Hid (∀ c ∈ s, pl58 c < 58) := Lib.hid (fun c hc => hva.out c (by rw [show k = N by omega, HN.out, List.take_length]; exact hc))
    have HR : Hid (unb58 s = (List.replicate (lead (s.map pl58)) 0#8 ++ ofNats (digs 256 (valN 58 (s.map pl58))).reverse, 0)) := Lib.hid (by
      rw [HX.out, if_pos]
      rw [List.all_eq_true]
      exact fun c hc => decide_eq_true (HV.out c hc))
    clear hva hk hkn
    go_wp2_with fail
    clear hkl
    go_loopw [0, 5] (fun sv v wr => ∃ k : Nat, k ≤ N ∧ sv = .string (strB (s.drop k)) ∧ Hid (s.take k = List.replicate k 49#8) ∧ Hid (Own8 wr w.heap.size v (List.replicate k 0#8)) ∧ Hid (Below w.heap.size w wr)) (fun sv _ _ => strLen sv)
    case atStart => exact ⟨0, by omega, by rw [HSS.out, List.drop_zero], Lib.hid rfl, Lib.hid (Own8.nil _ _), Lib.hid (Below.refl _ _)⟩
    case round =>
      obtain ⟨k, hk, rfl, htk, ho, hb⟩ := hrel
      have hlz : (strB (s.drop k)).size = N - k := by rw [strB_size, List.length_drop, HN.out]
      obtain ⟨T, hT⟩ : ∃ T, T = strB (s.drop k) := ⟨_, rfl⟩
      have HT := Lib.hid hT
      rw [← hT] at hlz ⊢
      clear hT
      have hex : (k < N ∧ s[k]? = some 49#8) ∨ (∀ c, s[k]? = some c → c ≠ 49#8) := by
        by_cases h : s[k]? = some 49#8
        · exact .inl ⟨by rw [HN.out]; exact (List.getElem?_eq_some_iff.1 h).1, h⟩
        · exact .inr fun c hc e => h (by rw [hc, e])
      rcases hex with ⟨hkn, hc⟩ | hno
      · have hpos : (0 : Int) < (T.size : Int) := by omega
        have hix : ∀ W, (Instr.index 9 (.string T) (.int .i64 0)).run Tryd.prog W = .ok (.int .u8 49) W := fun W => by
          have h := strB_index (s.drop k) 0 49#8 (by rw [List.getElem?_drop]; exact hc) W
          rw [← HT.out] at h
          exact h
        have hcut : ∀ W, (Instr.sliceAt 9 (.string T) (some (.int .i64 1)) none none).run Tryd.prog W = .ok (.string (strB (s.drop (k + 1)))) W := fun W => by
          have h := strB_cut (s.drop k) 1 (by rw [List.length_drop]; have := HN.out; omega) W
          rw [← HT.out, List.drop_drop] at h
          exact h
        have htk2 : Hid (s.take (k + 1) = List.replicate (k + 1) 49#8) := Lib.hid (by rw [List.take_add_one, hc, htk.out, List.replicate_succ']; rfl)
        have hsz2 : w.heap.size ≤ wr.heap.size := hb.out.size
        have hb3 := hb.out.alloc hsz2 (.cells #[.int .u8 0] 5)
        have hsz3 := hb3.size
        have ho3 := ho.out.alloc (.cells #[.int .u8 0] 5)
        have hrow3 : Row8 (wr.alloc (.cells #[.int .u8 0] 5)) (some ⟨wr.heap.size, 0, none⟩) [0#8] := new_one wr 0#8
        have hal : (List.replicate k 0#8).length + 1 ≤ 140737488355328 := by rw [List.length_replicate]; omega
        have hlz2 : (strB (s.drop (k + 1))).size = N - (k + 1) := by rw [strB_size, List.length_drop, HN.out]
        obtain ⟨T2, hT2⟩ : ∃ T2, T2 = strB (s.drop (k + 1)) := ⟨_, rfl⟩
        rw [← hT2] at hcut hlz2
        have HT2 := Lib.hid hT2
        clear hc hT2
        go_wp2_with ((with_reducible refine wp_append8 (o := ⟨some 34, _, _, _, _, _⟩) ?_ ((.tmp 32)) ((.tmp 33)) ?_ (w.heap.size) _ ((List.replicate k 0#8)) ?_ (ho3) ((some ⟨wr.heap.size, 0, none⟩)) (1) (1) ([0#8]) ?_ (rfl) (hrow3) ?_ (hsz3) (w.heap.size) (w) (hb3) ?_ ?_
                      · rfl
                      · rfl
                      · rfl
                      · rfl
                      · exact hal
                      · exact Nat.le_refl _
                      intro v4 w4 ho4 hb4 hg4 hs4))
        go_roundw
        case rel => exact ⟨k + 1, by omega, by rw [HT2.out], htk2, Lib.hid (by rw [List.replicate_succ']; exact ho4), Lib.hid hb4⟩
        case measure => simp only [strLen]; omega
      · have HSP := Lib.hid (ones_split (by have := HN.out; omega) htk.out hno)
        have HD : Hid (unb58 s = (List.replicate k 0#8 ++ ofNats (digs 256 (valN 58 ((s.drop k).map pl58))).reverse, 0)) := Lib.hid (by rw [HR.out, HSP.out.1, HSP.out.2])
        have HVD : Hid (∀ c ∈ s.drop k, pl58 c < 58) := Lib.hid (fun c hc => HV.out c (List.mem_of_mem_drop hc))
        obtain ⟨R, hRe⟩ : ∃ R, R = s.drop k := ⟨_, rfl⟩
        have HRX : Hid (∀ (j : Nat) (x : BitVec 8), R[j]? = some x → ∀ W, (Instr.index 9 (.string T) (.int .i64 (j : Int))).run Tryd.prog W = .ok (.int .u8 (iv8 x)) W) := Lib.hid (fun j x h W => by rw [HT.out, ← hRe]; exact strB_index R j x h W)
        have HM : Hid (R.length = N - k) := Lib.hid (by rw [hRe, List.length_drop, HN.out])
        have hno2 : ∀ c, R[0]? = some c → c ≠ 49#8 := fun c hc => hno c (by rw [hRe, List.getElem?_drop] at hc; exact hc)
        rw [← hRe] at HD HVD
        obtain ⟨M, hM⟩ : ∃ M, M = N - k := ⟨_, rfl⟩
        rw [← hM] at HM hlz
        have hM300 : M ≤ 300 := by omega
        have hk300 : k ≤ 300 := by omega
        clear hRe hM HSP HSS
        by_cases hkn : 0 < M
        case' pos =>
          obtain ⟨c, hc⟩ : ∃ c, R[0]? = some c := ⟨_, List.getElem?_eq_getElem (by rw [HM.out]; exact hkn)⟩
          have hpos : (0 : Int) < (T.size : Int) := by omega
          have hix : ∀ W, (Instr.index 9 (.string T) (.int .i64 0)).run Tryd.prog W = .ok (.int .u8 (iv8 c)) W := HRX.out 0 c hc
          have hne : (iv8 c == 49) = false := by
            rw [show (49 : Int) = iv8 49#8 from rfl, eqv8]
            simpa using hno2 c hc
          clear hc hno hno2
          go_upto_region 12 with fail
          clear hix hne hpos hkn
        case' neg =>
          have hpos : ¬ (0 : Int) < (T.size : Int) := by omega
          clear hno hno2
          go_upto_region 12 with fail
          clear hpos hkn
        all_goals
          rename World => wA
          go_wp2_with fail
          go_loopw [6, 7] (fun v i wx => ∃ j : Nat, j ≤ M ∧ i = .int .i64 j ∧ Hid (Own8 wx wA.heap.size v (ofNats (lowB R j)).reverse) ∧ Hid (Below wA.heap.size wA wx)) (fun _ i _ => M - (intOf i).toNat)
          case atStart => exact ⟨0, by omega, rfl, Lib.hid (by unfold lowB; rw [List.take_zero, show valN 58 [] = 0 from rfl, digs_zero]; exact Own8.nil _ _), Lib.hid (Below.refl _ _)⟩
          case round =>
            obtain ⟨j, hj, rfl, hn, hb2⟩ := hrel
            by_cases hjM : j < M
            · have hjl : (j : Int) < (T.size : Int) := by omega
              obtain ⟨c, hc⟩ : ∃ c, R[j]? = some c := ⟨_, List.getElem?_eq_getElem (by rw [HM.out]; exact hjM)⟩
              have hix := HRX.out j c hc
              have hd := HVD.out c (List.mem_of_getElem? hc)
              have HS := Lib.hid (lowB_succ hc)
              clear hc
              go_wp2_with fail
              refine (HPL.out c wr).mono ?_
              rintro e w' ⟨rfl, hw'⟩
              replace hw' := hw'.symm
              subst hw'
              have hpl : placeI alph58 c = (pl58 c : Int) := by rw [ix58, if_pos hd]
              rw [hpl]
              obtain ⟨x, hx⟩ : ∃ x, x = pl58 c := ⟨_, rfl⟩
              rw [← hx] at hd HS ⊢
              obtain ⟨D, hD⟩ : ∃ D, D = lowB R j := ⟨_, rfl⟩
              have HDL : Hid (∀ d ∈ D, d < 256) := Lib.hid (by rw [hD]; exact lowB_lt R j)
              have HDN : Hid (D.length ≤ 300) := Lib.hid (by
                rw [hD]
                exact Nat.le_trans (lowB_len R j (fun c hc => HVD.out c (List.mem_of_mem_take hc))) (by omega))
              rw [← hD] at hn HS
              obtain ⟨q, n, cap, rfl, hnl, hl3, hm3, hr3⟩ := hn.out.open
              have hnD : Hid (n = D.length) := Lib.hid (by rw [← hnl.out, List.length_reverse, ofNats_len])
              have hn300 : n ≤ 300 := by have := HDN.out; have := hnD.out; omega
              have hD58 := Lib.hid hd
              clear hpl hx hD hnl hr3 hd hix
              go_wp2_with fail
              go_loopw [8, 9] (fun cv iv wx => ∃ (i y : Nat) (done : List Nat), i ≤ n ∧ cv = .int .i64 y ∧ iv = .int .i64 ((n : Int) - 1 - (i : Int)) ∧ Hid (In58 D x i y done) ∧ Hid (Own8 wx wA.heap.size (.slice q n cap) (ofNats (done ++ D.drop i)).reverse) ∧ Hid (Below wA.heap.size wA wx)) (fun _ iv _ => (intOf iv + 1).toNat)
              case atStart => exact ⟨0, x, [], by omega, rfl, by go_num, Lib.hid ⟨rfl, rfl, hD58.out⟩, hn, hb2⟩
              case round =>
                obtain ⟨i, y, done, hi, rfl, rfl, HI, HO2, HB2⟩ := hrel
                by_cases hin : i < n
                · obtain ⟨p, hp⟩ : ∃ p : Nat, p = n - 1 - i := ⟨_, rfl⟩
                  have hpi : (n : Int) - 1 - (i : Int) = (p : Int) := by omega
                  obtain ⟨d, hdd⟩ : ∃ d, D[i]? = some d := ⟨_, List.getElem?_eq_getElem (by rw [← hnD.out]; exact hin)⟩
                  have hd2 := HDL.out d (List.mem_of_getElem? hdd)
                  have hstep := HI.out.step HDL.out hdd
                  have hrow := HI.out.row hdd ((y + 58 * d) % 256)
                  have hlen : (ofNats (done ++ D.drop i)).length = n := by rw [ofNats_len, List.length_append, HI.out.len, List.length_drop, ← hnD.out]; omega
                  have hat : (ofNats (done ++ D.drop i)).reverse[p]? = some (BitVec.ofNat 8 d) := by
                    rw [List.getElem?_reverse (by rw [hlen]; omega), hlen, hp, show n - 1 - (n - 1 - i) = i by omega]; exact hrow.2
                  obtain ⟨g, cap', he, hgB, hgl, hcc, hcells, hfz⟩ := HO2.out.some (fun e => by rw [e] at hat; cases hat)
                  obtain rfl : q = some ⟨g, 0, none⟩ := by injection he
                  have hcell := hcells p _ hat
                  have hfz := hfz p
                  have hy := HI.out.carry
                  have hiv : iv8 (BitVec.ofNat 8 d) = (d : Int) := by unfold iv8; rw [BitVec.toNat_ofNat, Nat.mod_eq_of_lt hd2]
                  rw [hiv] at hcell
                  have HW := Lib.hid (step58 y d hy hd2)
                  have HWT := Lib.hid (step58t y d hy hd2)
                  have HST := Lib.hid hstep
                  have HRW : Hid ((ofNats (done ++ D.drop i)).reverse.set p (BitVec.ofNat 8 ((y + 58 * d) % 256)) = (ofNats ((done ++ [(y + 58 * d) % 256]) ++ D.drop (i + 1))).reverse) := Lib.hid (by rw [hp, rev_put hlen hin, hrow.1])
                  have hp0 : (0 : Int) ≤ (p : Int) := by omega
                  have hpn : (p : Int) < (n : Int) := by omega
                  have HP := Lib.hid hp
                  rw [hpi]
                  clear hstep hrow hcells hdd he hcc hgl hy hiv hd2 hlen hat hp hpi
                  go_wp2_with fail
                  go_roundw
                  case rel =>
                    obtain ⟨hw0, hw1, hw2, _, _⟩ := HW.out
                    obtain ⟨ht1, ht2, ht3⟩ := HWT.out
                    rw [hw0, hw1, hw2, ht1, ht2, ht3]
                    exact ⟨i + 1, (y + 58 * d) / 256, done ++ [(y + 58 * d) % 256], by omega, rfl, by congr 1; have := HP.out; omega, HST, Lib.hid (by rw [← HRW.out]; exact HO2.out.put p _), Lib.hid (HB2.out.setCell hgB _)⟩
                  case measure => simp [intOf]
                · have hge : ¬ (0 : Int) ≤ (n : Int) - 1 - (i : Int) := by omega
                  have hin' : i = n := by omega
                  have hjD : Hid (D.drop i = []) := Lib.hid (List.drop_eq_nil_of_le (by rw [← hnD.out]; omega))
                  have hy := HI.out.carry
                  have HE : Hid (lowB R (j + 1) = done ++ digs 256 y) := Lib.hid (by rw [HS.out, HI.out.eq, hjD.out, muls])
                  have HO3 : Hid (Own8 wr wA.heap.size (.slice q n cap) (ofNats done).reverse) := Lib.hid (by have := HO2.out; rwa [hjD.out, List.append_nil] at this)
                  by_cases hy0 : y = 0
                  · subst hy0
                    have HE2 : Hid (lowB R (j + 1) = done) := Lib.hid (by rw [HE.out, digs_zero, List.append_nil])
                    have HB3 := HB2.out
                    clear HB2 hin' hy
                    go_wp2_with fail
                    go_roundw
                    case rel => exact ⟨j + 1, by omega, by go_num, Lib.hid (by rw [HE2.out]; exact HO3.out), Lib.hid HB3⟩
                    case measure => simp [intOf]; omega
                  · have hyp : (0 : Int) < (y : Int) := by omega
                    have HE2 : Hid (lowB R (j + 1) = done ++ [y]) := Lib.hid (by rw [HE.out, digs_pos (by omega) hy0, Nat.mod_eq_of_lt (by omega), Nat.div_eq_of_lt (by omega), digs_zero])
                    have hw3 := toByte y
                    rw [Nat.mod_eq_of_lt (show y < 256 by omega)] at hw3
                    have hsz2 : wA.heap.size ≤ wr.heap.size := HB2.out.size
                    have hb3 := HB2.out.alloc hsz2 (.cells #[.int .u8 ((y : Int) % 256)] 5)
                    have hsz3 := hb3.size
                    have ho3 := own_one wr wA.heap.size ((y : Int) % 256) (BitVec.ofNat 8 y) hw3 hsz2
                    obtain ⟨q', n', c', e', hn2, _, _, hr3⟩ := HO3.out.open
                    obtain ⟨rfl, rfl, rfl⟩ : q = q' ∧ n = n' ∧ cap = c' := by injection e' with a1 a2 a3; exact ⟨a1, a2, a3⟩
                    have hrow3 := hr3.fut (below_new wr (.cells #[.int .u8 ((y : Int) % 256)] 5))
                    have hdl : 1 + (ofNats done).reverse.length ≤ 140737488355328 := by rw [hn2.out]; omega
                    clear hw3 hy0 hy hin' e' hr3
                    go_wp2_with ((with_reducible refine wp_append8 (o := ⟨some 76, _, _, _, _, _⟩) ?_ ((.tmp 74)) ((.tmp 75)) ?_ (wA.heap.size) _ ([BitVec.ofNat 8 y]) ?_ (ho3) (q) (n) (cap) ((ofNats done).reverse) ?_ (hn2.out) (hrow3) ?_ (hsz3) (wA.heap.size) (wA) (hb3) ?_ ?_
                                  · rfl
                                  · rfl
                                  · rfl
                                  · rfl
                                  · exact hdl
                                  · exact Nat.le_refl _
                                  intro v4 w4 ho4 hb4 hg4 hs4))
                    go_roundw
                    case rel => exact ⟨j + 1, by omega, by go_num, Lib.hid (by rw [HE2.out, ofNats_app, ofNats_one, List.reverse_append]; exact ho4), Lib.hid hb4⟩
                    case measure => simp [intOf]; omega
            · have hjl : ¬ (j : Int) < (T.size : Int) := by omega
              have hjM2 : j = M := by omega
              have HL : Hid (lowB R j = digs 256 (valN 58 (R.map pl58))) := Lib.hid (by unfold lowB; rw [List.take_of_length_le (by rw [List.length_map]; have := HM.out; omega)])
              have HR2 : Hid (unb58 s = (List.replicate k 0#8 ++ (ofNats (lowB R j)).reverse, 0)) := Lib.hid (by rw [HD.out, HL.out]; unfold ofNats; rw [List.map_reverse])
              have HLen : Hid ((ofNats (lowB R j)).length ≤ 300) := Lib.hid (by rw [ofNats_len]; have := lowB_len R j (fun c hc => HVD.out c (List.mem_of_mem_take hc)); omega)
              obtain ⟨D, hD⟩ : ∃ D, D = ofNats (lowB R j) := ⟨_, rfl⟩
              rw [← hD] at hn HR2 HLen
              have hb3 := hb.out.trans (hb2.out.mono hb.out.size)
              have hsz3 := hb3.size
              have ho3 := ho.out.below hb2.out (Nat.le_refl _)
              obtain ⟨q, n, cap, rfl, hnl, hl3, hm3, hr3⟩ := hn.out.open
              have hal : (List.replicate k 0#8).length + D.reverse.length ≤ 140737488355328 := by rw [List.length_replicate, List.length_reverse]; have := HLen.out; omega
              clear hD hjM2
              go_wp2_with ((with_reducible refine wp_append8 (o := ⟨some 79, _, _, _, _, _⟩) ?_ ((.tmp 77)) ((.tmp 78)) ?_ (w.heap.size) _ ((List.replicate k 0#8)) ?_ (ho3) (q) (n) (cap) (D.reverse) ?_ (hnl.out) (hr3) ?_ (hsz3) (w.heap.size) (w) (hb3) ?_ ?_
                            · rfl
                            · rfl
                            · rfl
                            · rfl
                            · exact hal
                            · exact Nat.le_refl _
                            intro v4 w4 ho4 hb4 hg4 hs4))
              go_ret2
              rw [HR2.out]
              exact ⟨v4, rfl, ho4, hb4⟩
end Go.Proofs.YtbkpgdfkjijagaaDoor
