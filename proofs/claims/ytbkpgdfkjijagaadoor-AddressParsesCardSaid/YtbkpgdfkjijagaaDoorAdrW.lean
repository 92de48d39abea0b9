/- sporranref14.Base58: the walk. -/
import Derived.Test.YtbkpgdfkjijagaaDoorAdrV
namespace Go.Proofs.YtbkpgdfkjijagaaDoor
open Go.RowKit
set_option linter.unusedVariables false

theorem strB_app (a b : List (BitVec 8)) : strB a ++ strB b = strB (a ++ b) := by
  apply ByteArray.ext
  apply Array.toList_inj.1
  rw [ByteArray.data_append, Array.toList_append, strB_data, strB_data, strB_data, List.map_append]
theorem str_add (a b : List (BitVec 8)) (h : a.length + b.length ≤ 1000000) (w : World) : (Op.stringOp .add (strB a) (strB b)).run Tryd.prog w = .ok (.string (strB (a ++ b))) w := by
  rw [run_string_add_sum w _ _ (by rw [strB_size, strB_size]; omega), strB_app]
theorem digit_cut (r : Nat) (hr : r < 58) (w : World) : (Instr.sliceAt 9 (.string (strB alph58)) (some (.int .i64 (r : Int))) (some (.int .i64 ((r : Int) + 1))) none).run Tryd.prog w = .ok (.string (strB [dig58 r])) w := by
  have key : ∀ r : Fin 58, (strB alph58).extract r.val (r.val + 1) = strB [dig58 r.val] := by decide +kernel
  rw [run_sliceAt_string w _ _ _ _ _ Tryd.underlying9, run_slice_string w _ _ _ _ _ _ Tryd.underlying9 (by omega) (by omega) (by rw [strB_size]; show (r : Int) + 1 ≤ 58; omega)]
  have := key ⟨r, hr⟩
  simp only at this
  rw [← this]
  congr 2
def cutA (p : Option Addr) (c k : Nat) : Option Addr := if c = k then p else p.map (·.add k)
/-- a cut of a slice: 's[1:]' -/
theorem slice_one (w : World) (p : Option Addr) (m c : Nat) (h : 1 ≤ m) :
    (Instr.sliceAt 22 (.slice p m c) (some (.int .i64 1)) none none).run Tryd.prog w = .ok (.slice (cutA p c 1) (m - 1) (c - 1)) w := by
  have hs : (sizeOf (Tryd.prog.elem 22)).run Tryd.prog w = .ok 1 w := by kernel_rfl
  have hu : Tryd.prog.underlying 22 = some (.slice (Tryd.prog.elem 22)) := by kernel_rfl
  rw [run_sliceAt_slice w _ _ _ _ _ hu, run_slice_l w _ _ _ _ hu _ _ (by omega) (by omega), hs]
  simp [Result.andThen, sliced, cutA]
theorem Row8.one {w : World} {p : Option Addr} {bs : List (BitVec 8)} (h : Row8 w p bs) {c : Nat} (hc : bs.length ≤ c) : Row8 w (cutA p c 1) (bs.drop 1) := Row8.drop h hc
def lenSl : Value → Nat
  | .slice _ n _ => n
  | _ => 0
theorem own_emptyA (w : World) (B : Nat) (hB : B ≤ w.heap.size) : Own8 (w.alloc (.cells #[] 5)) B (.slice (some ⟨w.heap.size, 0, none⟩) 0 0) [] :=
  ⟨rfl, .inr ⟨w.heap.size, 0, #[], rfl, hB, Blk.new w _ _, Nat.le_refl _, by unfold maxLen; omega, rfl, rfl⟩⟩

/-! ### plain: a division by 58, byte by byte -/
structure Div58 (L : List Nat) (i v r : Nat) : Prop where
  eq : valN 256 (L.take i) = 58 * v + r
  lt : r < 58
theorem Div58.step {L : List Nat} {i v r x : Nat} (h : Div58 L i v r) (hx : L[i]? = some x) : Div58 L (i + 1) (256 * v + (256 * r + x) / 58) ((256 * r + x) % 58) := by
  refine ⟨?_, Nat.mod_lt _ (by decide)⟩
  rw [List.take_add_one, hx]
  show valN 256 (L.take i ++ [x]) = _
  rw [valN_app, h.eq]
  omega
theorem Div58.len {L : List Nat} {i v r : Nat} (h : Div58 L i v r) (hl : ∀ d ∈ L, d < 256) : (digs 256 v).length ≤ i := by
  refine digs_len_le (by omega) _ _ ?_
  have h1 : valN 256 (L.take i) < 256 ^ (L.take i).length := valN_lt (by omega) _ (fun d hd => hl d (List.mem_of_mem_take hd))
  have h2 : (L.take i).length ≤ i := by rw [List.length_take]; omega
  have h3 := Nat.lt_of_lt_of_le h1 (Nat.pow_le_pow_right (by omega) h2)
  rw [h.eq] at h3
  omega
theorem digs_next (v d : Nat) (hd : d < 256) : (digs 256 (256 * v + d)).reverse = if v = 0 ∧ d = 0 then [] else (digs 256 v).reverse ++ [d] := by
  by_cases h : v = 0 ∧ d = 0
  · rw [if_pos h, h.1, h.2, show 256 * 0 + 0 = 0 from rfl, digs_zero]; rfl
  · rw [if_neg h, Nat.add_comm, digs_more (by omega) hd (by omega), List.reverse_cons]
theorem digs_pos_len (v : Nat) : 0 < (digs 256 v).length ↔ v ≠ 0 := by
  by_cases h : v = 0
  · subst h; rw [digs_zero]; simp
  · rw [digs_pos (by omega) h]; simp [h]
theorem valN_digs (n : Nat) : valN 256 (digs 256 n).reverse = n := by rw [valN_rev, undigs_digs (by omega)]
/-- bytes without noughts ahead are those of their number -/
theorem rest_digs (L : List Nat) (hl : ∀ d ∈ L, d < 256) (h0 : ∀ x, L.head? = some x → x ≠ 0) : L = (digs 256 (valN 256 L)).reverse := by
  have h1 := row_back (b := 256) (by omega) L hl
  have h2 : lead L = 0 := by
    cases L with
    | nil => rfl
    | cons a r => exact lead_app 0 (a :: r) h0
  rw [h2] at h1
  exact h1.symm

theorem wrapsY (r x : Nat) : 256 * (r : Int) + (x : Int) = ((256 * r + x : Nat) : Int) := by omega
theorem quo58 (Y : Nat) (h : Y < 14848) : wrap64 ((Y : Int).tdiv 58) = ((Y / 58 : Nat) : Int) := by
  rw [Int.tdiv_eq_ediv_of_nonneg (by omega), wrap64_self _ (by omega) (by omega)]; omega
theorem rem58 (Y : Nat) (h : Y < 14848) : (Y : Int).tmod 58 = ((Y % 58 : Nat) : Int) := by
  rw [Int.tmod_eq_emod_of_nonneg (by omega)]; omega
theorem zero_split {bs : List (BitVec 8)} {k : Nat} (h1 : bs.take k = List.replicate k 0#8) (h2 : ∀ c, bs[k]? = some c → c ≠ 0#8) : lead (nats bs) = k ∧ valN 256 (nats bs) = valN 256 (nats (bs.drop k)) ∧ nats (bs.drop k) = (digs 256 (valN 256 (nats (bs.drop k)))).reverse := by
  have hh : ∀ x, (nats (bs.drop k)).head? = some x → x ≠ 0 := fun x hx => by
    unfold nats at hx
    rw [List.head?_map, List.head?_drop] at hx
    cases hc : bs[k]? with
    | none => rw [hc] at hx; cases hx
    | some c =>
      rw [hc] at hx
      injection hx with hx
      rw [← hx]
      exact fun e => h2 c hc (BitVec.eq_of_toNat_eq e)
  have e : nats bs = List.replicate k 0 ++ nats (bs.drop k) := by
    unfold nats
    conv => lhs; rw [← List.take_append_drop k bs, h1]
    rw [List.map_append, List.map_replicate]; rfl
  refine ⟨?_, ?_, rest_digs _ (nats_lt _) hh⟩
  · rw [e]; exact lead_app k _ hh
  · rw [e, valN_zeros]
theorem bytes_of {bs : List (BitVec 8)} {l : List Nat} (h : nats bs = l) : bs = ofNats l := by rw [← h, ofNats_nats]

set_option maxRecDepth 100000 in
set_option maxHeartbeats 8000000 in
theorem refBase58_any (p : Option Addr) (n c : Nat) (bs : List (BitVec 8)) (w : World) (hr : Row8 w p bs) (hn : bs.length = n) :
    Calls Tryd.prog 9 #[.slice p n c] w fun e w' => e = .returned (.string (strB (b58 bs))) ∧ Below w.heap.size w w' := by
  have HN := Lib.hid hn
  by_cases hbig : 200 < n
  · have HX : Hid (b58 bs = []) := Lib.hid (by unfold b58; rw [if_pos (by omega)])
    have hlt : (200 : Int) < (n : Int) := by omega
    clear hn hr
    go_enter Tryd.func9, Tryd.ntmps9
    go_wp2_with fail
    go_ret
    exact ⟨by rw [HX.out]; rfl, Below.refl _ _⟩
  have hlt : ¬ (200 : Int) < (n : Int) := by omega
  have HX : Hid (b58 bs = List.replicate (lead (nats bs)) 49#8 ++ (digs 58 (valN 256 (nats bs))).reverse.map dig58) := Lib.hid (by unfold b58; rw [if_neg (by omega)])
  have hn200 : n ≤ 200 := by omega
  clear hn hbig
  go_enter Tryd.func9, Tryd.ntmps9
  have hb0 : Below w.heap.size w (w.alloc (.cells #[] 5)) := below_new w _
  have ho0 := own_emptyA w w.heap.size (Nat.le_refl _)
  have hr0 := hr.fut hb0
  have hsz0 := hb0.size
  have hal : ([] : List (BitVec 8)).length + bs.length ≤ 140737488355328 := by rw [HN.out]; show 0 + n ≤ _; omega
  go_wp2_with ((with_reducible refine wp_append8 (o := ⟨some 16, _, _, _, _, _⟩) ?_ ((.tmp 14)) ((.tmp 15)) ?_ (w.heap.size) _ (([] : List (BitVec 8))) ?_ (ho0) (p) (n) (c) (bs) ?_ (HN.out) (hr0) ?_ (hsz0) (w.heap.size) (w) (hb0) ?_ ?_
                · rfl
                · rfl
                · rfl
                · rfl
                · exact hal
                · exact Nat.le_refl _
                intro v1 w1 ho1 hb1 hg1 hs1))
  rw [List.nil_append] at ho1
  obtain ⟨q, m, cap, rfl, hm, hl3, hm3, hr3⟩ := ho1.open
  have hmn : m = n := by rw [← hm.out, HN.out]
  subst hmn
  have HB1 := Lib.hid hb1
  have HR3 := Lib.hid hr3
  clear hb0 ho0 hr0 hsz0 hal ho1 hb1 hg1 hs1 hr3 hm hr
  go_loop [3, 4] (fun sv v => ∃ (k : Nat) (q' : Option Addr) (c' : Nat), k ≤ m ∧ sv = .string (strB (List.replicate k 49#8)) ∧ v = .slice q' (m - k) c' ∧ m - k ≤ c' ∧ Hid (bs.take k = List.replicate k 0#8) ∧ Hid (Row8 w1 q' (bs.drop k))) (fun _ v => lenSl v)
  case atStart => exact ⟨0, q, cap, by omega, rfl, rfl, hl3, Lib.hid rfl, HR3⟩
  case round =>
    obtain ⟨k, q', c', hk, rfl, rfl, hc', htk, HR⟩ := hrel
    have hex : (k < m ∧ bs[k]? = some 0#8) ∨ (∀ c, bs[k]? = some c → c ≠ 0#8) := by
      by_cases h : bs[k]? = some 0#8
      · exact .inl ⟨by rw [← HN.out]; exact (List.getElem?_eq_some_iff.1 h).1, h⟩
      · exact .inr fun c hc e => h (by rw [hc, e])
    obtain ⟨M, hM⟩ : ∃ M, M = m - k := ⟨_, rfl⟩
    have HM := Lib.hid hM
    rw [← hM] at hc' ⊢
    rcases hex with ⟨hkm, hc⟩ | hno
    · have hpos : (0 : Int) < (M : Int) := by omega
      obtain ⟨b, o, rfl, _, hcl⟩ := HR.out (fun e => by have := congrArg List.length e; rw [List.length_drop, HN.out] at this; simp only [List.length_nil] at this; omega)
      have hcell : w1.cell? ⟨b, o, none⟩ = some (.int .u8 0) := by
        have := hcl 0 0#8 (by rw [List.getElem?_drop]; exact hc)
        exact this
      have hcut := fun W => slice_one W (some ⟨b, o, none⟩) M c' (by omega)
      have hadd : ∀ W, (Op.stringOp .add (strB (List.replicate k 49#8)) ⟨#[49]⟩).run Tryd.prog W = .ok (.string (strB (List.replicate (k + 1) 49#8))) W := fun W => by
        rw [List.replicate_succ']
        exact str_add (List.replicate k 49#8) [49#8] (by rw [List.length_replicate]; show k + 1 ≤ _; omega) W
      have hR2 : Hid (Row8 w1 (cutA (some ⟨b, o, none⟩) c' 1) (bs.drop (k + 1))) := Lib.hid (by
        have h := HR.out.one (c := c') (by rw [List.length_drop, HN.out]; omega)
        rwa [List.drop_drop] at h)
      have htk2 : Hid (bs.take (k + 1) = List.replicate (k + 1) 0#8) := Lib.hid (by rw [List.take_add_one, hc, htk.out, List.replicate_succ']; rfl)
      obtain ⟨q2, hq2⟩ : ∃ q2, q2 = cutA (some ⟨b, o, none⟩) c' 1 := ⟨_, rfl⟩
      rw [← hq2] at hR2
      simp only [← hq2] at hcut
      have hM1 : Hid (M - 1 = m - (k + 1)) := Lib.hid (by omega)
      clear hc hcl hq2 hM
      go_wp2_with fail
      go_round
      case rel => exact ⟨k + 1, q2, c' - 1, by omega, rfl, by rw [hM1.out], by have := hM1.out; omega, htk2, hR2⟩
      case measure => simp only [lenSl]; omega
    · have HSP := Lib.hid (zero_split htk.out hno)
      have HD : Hid (b58 bs = List.replicate k 49#8 ++ (digs 58 (valN 256 (nats (bs.drop k)))).reverse.map dig58) := Lib.hid (by rw [HX.out, HSP.out.1, HSP.out.2.1])
      have HRe : Hid (bs.drop k = ofNats (digs 256 (valN 256 (nats (bs.drop k)))).reverse) := Lib.hid (bytes_of HSP.out.2.2)
      have HRl : Hid ((bs.drop k).length = M) := Lib.hid (by rw [List.length_drop, HN.out, HM.out])
      have hno2 : ∀ x, (bs.drop k)[0]? = some x → x ≠ 0#8 := fun x hx => hno x (by rw [List.getElem?_drop] at hx; exact hx)
      obtain ⟨R, hRd⟩ : ∃ R, R = bs.drop k := ⟨_, rfl⟩
      rw [← hRd] at HR HD HRe HRl hno2
      have hM200 : M ≤ 200 := by omega
      have hk200 : k ≤ 200 := by omega
      clear HSP hRd hno hM HM htk hk
      by_cases hkn : 0 < M
      case' pos =>
        have hpos : (0 : Int) < (M : Int) := by omega
        obtain ⟨x, hx⟩ : ∃ x, R[0]? = some x := ⟨_, List.getElem?_eq_getElem (by rw [HRl.out]; exact hkn)⟩
        obtain ⟨b, o, rfl, _, hcl⟩ := HR.out (fun e => by rw [e] at hx; cases hx)
        have hcell : w1.cell? ⟨b, o, none⟩ = some (.int .u8 (iv8 x)) := by
          have := hcl 0 x hx
          exact this
        have hne : (iv8 x == 0) = false := by
          rw [show (0 : Int) = iv8 0#8 from rfl, eqv8]
          simpa using hno2 x hx
        clear hx hno2 hcl
        go_upto_region 8 with fail
        clear hcell hne hpos hkn
      case' neg =>
        have hpos : ¬ (0 : Int) < (M : Int) := by omega
        clear hno2
        go_upto_region 8 with fail
        clear hpos hkn
      all_goals
        obtain ⟨NN, hNN⟩ : ∃ NN, NN = valN 256 (nats R) := ⟨_, rfl⟩
        rw [← hNN] at HD HRe
        have HT : Hid ((digs 58 NN).length ≤ 300) := Lib.hid (by
          have h1 : NN < 256 ^ M := by rw [hNN, ← HRl.out, ← List.length_map BitVec.toNat]; exact valN_lt (by omega) _ (nats_lt R)
          have := digs58_len M NN h1
          omega)
        have HL0 : Hid ((digs 256 NN).length = M) := Lib.hid (by have := congrArg List.length HRe.out; rw [ofNats_len, List.length_reverse, HRl.out] at this; exact this.symm)
        rw [HRe.out] at HR
        obtain ⟨O, hO⟩ : ∃ O, O = strB (List.replicate k 49#8) := ⟨_, rfl⟩
        rw [← hO]
        have HO := Lib.hid hO
        clear hNN HRe HRl hO
        go_wp2_with fail
        go_loopw [4, 5] (fun v tv wx => ∃ (N2 : Nat) (tl : List (BitVec 8)) (q2 : Option Addr) (len c2 : Nat), v = .slice q2 len c2 ∧ tv = .string (strB tl) ∧ len ≤ 300 ∧ Hid (Row8 wx q2 (ofNats (digs 256 N2).reverse)) ∧ Hid ((digs 256 N2).length = len) ∧ Hid ((digs 58 NN).reverse.map dig58 = (digs 58 N2).reverse.map dig58 ++ tl) ∧ Hid (Below w.heap.size w wx)) (fun _ tv _ => 300 - strLen tv)
        case atStart => exact ⟨NN, [], _, M, c', rfl, rfl, Nat.le_trans hM200 (by decide), HR, HL0, Lib.hid (by rw [List.append_nil]), HB1⟩
        case round =>
          obtain ⟨N2, tl, q2, len, c2, rfl, rfl, hlen300, HR2, HL2, HT2, hb2⟩ := hrel
          have hTL : Hid (tl.length ≤ 300) := Lib.hid (by have := congrArg List.length HT2.out; simp only [List.length_map, List.length_append, List.length_reverse] at this; have := HT.out; omega)
          by_cases hlen : 0 < len
          · have hlp : (0 : Int) < (len : Int) := by omega
            have HLT : Hid (∀ d ∈ (digs 256 N2).reverse, d < 256) := Lib.hid (fun d hd => digs_lt (by omega) N2 d (List.mem_reverse.1 hd))
            have HLV : Hid (valN 256 (digs 256 N2).reverse = N2) := Lib.hid (valN_digs N2)
            have HN0 : Hid (N2 ≠ 0) := Lib.hid ((digs_pos_len N2).1 (by rw [HL2.out]; exact hlen))
            have HLL : Hid ((digs 256 N2).reverse.length = len) := Lib.hid (by rw [List.length_reverse]; exact HL2.out)
            obtain ⟨L, hL⟩ : ∃ L, L = (digs 256 N2).reverse := ⟨_, rfl⟩
            rw [← hL] at HR2 HLT HLV HLL
            clear hL HL2
            rename World => wB
            go_wp2_with fail
            go_loopw [6, 7, 35] (fun rv v iv wx => ∃ (i v2 r : Nat), i ≤ len ∧ iv = .int .i64 i ∧ rv = .int .i64 r ∧ Hid (Div58 L i v2 r) ∧ Hid (Own8 wx wB.heap.size v (ofNats (digs 256 v2).reverse)) ∧ Hid (Below wB.heap.size wB wx)) (fun _ _ iv _ => len - (intOf iv).toNat)
            case atStart => exact ⟨0, 0, 0, by omega, rfl, rfl, Lib.hid ⟨rfl, by decide⟩, Lib.hid (by rw [digs_zero]; exact Own8.nil _ _), Lib.hid (Below.refl _ _)⟩
            case round =>
              obtain ⟨i, v2, r, hi, rfl, rfl, HD2, HO2, HB2⟩ := hrel
              obtain ⟨q3, n3, c3, rfl, hn3, hl3', hm3', hr3'⟩ := HO2.out.open
              have hn3v : 0 < n3 ↔ v2 ≠ 0 := by rw [← hn3.out, ofNats_len, List.length_reverse]; exact digs_pos_len v2
              have hr58 := HD2.out.lt
              by_cases hil : i < len
              · have hilt : (i : Int) < (len : Int) := by omega
                obtain ⟨x, hx⟩ : ∃ x, L[i]? = some x := ⟨_, List.getElem?_eq_getElem (by rw [HLL.out]; exact hil)⟩
                have hx256 := HLT.out x (List.mem_of_getElem? hx)
                have hst := Lib.hid (HD2.out.step hx)
                obtain ⟨b, o, hq2, _, hcl⟩ := (HR2.out.fut HB2.out) (fun e => by have := congrArg List.length e; rw [ofNats_len, HLL.out] at this; simp only [List.length_nil] at this; omega)
                subst hq2
                have hcell : wr.cell? ⟨b, o + i, none⟩ = some (.int .u8 (x : Int)) := by
                  have h := hcl i (BitVec.ofNat 8 x) (by unfold ofNats; rw [List.getElem?_map, hx]; rfl)
                  rw [h]; unfold u8 iv8; rw [BitVec.toNat_ofNat, Nat.mod_eq_of_lt (by omega)]
                have HWY := Lib.hid (wrapsY r x)
                clear hx hcl hr3' hl3' hm3'
                go_upto_region 16 with fail
                rw [HWY.out]
                obtain ⟨Y, hY⟩ : ∃ Y, Y = 256 * r + x := ⟨_, rfl⟩
                have hY2 : Y < 14848 := by omega
                have HQ58 := Lib.hid (quo58 Y hY2)
                have HY := Lib.hid hY
                rw [← hY] at hst ⊢
                clear hY hcell
                go_upto_region 17 with fail
                rw [show (Y : Int) / 58 = ((Y / 58 : Nat) : Int) from Int.natCast_ediv Y 58]
                have hd256 : Y / 58 < 256 := Nat.div_lt_of_lt_mul (Nat.lt_of_lt_of_le hY2 (by decide))
                have HMOD := Lib.hid (rem58 Y hY2)
                have HMOD2 : Hid ((Y : Int) % 58 = ((Y % 58 : Nat) : Int)) := Lib.hid (Int.natCast_emod Y 58)
                obtain ⟨d, hd⟩ : ∃ d, d = Y / 58 := ⟨_, rfl⟩
                rw [← hd] at hst hd256 ⊢
                have hdn := digs_next v2 d hd256
                clear hd HQ58
                by_cases hnone : v2 = 0 ∧ d = 0
                · obtain rfl : n3 = 0 := by have := fun h => (hn3v.1 h) hnone.1; omega
                  have hd0 : ¬ (0 : Int) < (d : Int) := by have := hnone.2; omega
                  have HE : Hid ((digs 256 (256 * v2 + d)).reverse = (digs 256 v2).reverse) := Lib.hid (by rw [hdn, if_pos hnone, hnone.1, digs_zero]; rfl)
                  clear hdn hnone hn3v
                  go_wp2_with fail
                  go_roundw
                  case rel => exact ⟨i + 1, 256 * v2 + d, Y % 58, by omega, by go_num, by first | rw [HMOD.out] | rw [HMOD2.out], hst, Lib.hid (by rw [HE.out]; exact HO2.out), HB2⟩
                  case measure => simp [intOf]; omega
                · have HE : Hid ((digs 256 (256 * v2 + d)).reverse = (digs 256 v2).reverse ++ [d]) := Lib.hid (by rw [hdn, if_neg hnone])
                  have HNO : Hid (n3 ≤ 300) := Lib.hid (by have := HD2.out.len HLT.out; rw [← hn3.out, ofNats_len, List.length_reverse]; omega)
                  have hw3 := toByte d
                  rw [Nat.mod_eq_of_lt hd256, show (d : Int) % 256 = (d : Int) by omega] at hw3
                  have hsz2 : wB.heap.size ≤ wr.heap.size := HB2.out.size
                  have hb3 := HB2.out.alloc hsz2 (.cells #[.int .u8 (d : Int)] 5)
                  have hsz3 := hb3.size
                  have ho3 := HO2.out.alloc (.cells #[.int .u8 (d : Int)] 5)
                  have hrow3 : Row8 (wr.alloc (.cells #[.int .u8 (d : Int)] 5)) (some ⟨wr.heap.size, 0, none⟩) [BitVec.ofNat 8 d] := by rw [hw3]; exact new_one wr (BitVec.ofNat 8 d)
                  have hdl : (ofNats (digs 256 v2).reverse).length + 1 ≤ 140737488355328 := by rw [hn3.out]; have := HNO.out; omega
                  have hcase : (0 < n3) ∨ (n3 = 0 ∧ 0 < d) := by
                    by_cases h : 0 < n3
                    · exact .inl h
                    · have h2 : v2 = 0 := by
                        by_cases h3 : v2 = 0
                        · exact h3
                        · exact absurd (hn3v.2 h3) h
                      exact .inr ⟨by omega, Nat.pos_of_ne_zero fun e => hnone ⟨h2, e⟩⟩
                  clear hw3 hdn hnone hn3v
                  rcases hcase with hn0 | ⟨hn0, hd0⟩
                  case' inl =>
                    have hn0' : (0 : Int) < (n3 : Int) := by omega
                    go_upto_region 18 with fail
                  case' inr =>
                    subst hn0
                    have hd0' : (0 : Int) < (d : Int) := by omega
                    go_upto_region 18 with fail
                  all_goals
                    go_wp2_with ((with_reducible refine wp_append8 (o := ⟨some 57, _, _, _, _, _⟩) ?_ ((.tmp 53)) ((.tmp 56)) ?_ (wB.heap.size) _ ((ofNats (digs 256 v2).reverse)) ?_ (ho3) ((some ⟨wr.heap.size, 0, none⟩)) (1) (1) ([BitVec.ofNat 8 d]) ?_ (rfl) (hrow3) ?_ (hsz3) (wB.heap.size) (wB) (hb3) ?_ ?_
                                  · rfl
                                  · rfl
                                  · rfl
                                  · rfl
                                  · exact hdl
                                  · exact Nat.le_refl _
                                  intro v4 w4 ho4 hb4 hg4 hs4))
                    go_roundw
                    case rel => exact ⟨i + 1, 256 * v2 + d, Y % 58, by omega, by go_num, by first | rw [HMOD.out] | rw [HMOD2.out], hst, Lib.hid (by rw [HE.out, ofNats_app, ofNats_one]; exact ho4), Lib.hid hb4⟩
                    case measure => simp [intOf]; omega
              · have hilt : ¬ (i : Int) < (len : Int) := by omega
                have hEQ : Hid (N2 = 58 * v2 + r) := Lib.hid (by
                  have h := HD2.out.eq
                  rwa [List.take_of_length_le (by rw [HLL.out]; omega), HLV.out] at h)
                have hT3 : Hid ((digs 58 NN).reverse.map dig58 = (digs 58 v2).reverse.map dig58 ++ ([dig58 r] ++ tl)) := Lib.hid (by
                  have h1 : digs 58 N2 = r :: digs 58 v2 := by
                    rw [hEQ.out, Nat.add_comm, digs_more (by omega) hr58]
                    have := HN0.out; have := hEQ.out; omega
                  rw [HT2.out, h1, List.reverse_cons, List.map_append, List.append_assoc]; rfl)
                have hn3e : Hid ((digs 256 v2).length = n3) := Lib.hid (by rw [← hn3.out, ofNats_len, List.length_reverse])
                have hn300 : n3 ≤ 300 := by have := HD2.out.len HLT.out; rw [← hn3.out, ofNats_len, List.length_reverse]; omega
                have hdc := fun W => digit_cut r hr58 W
                rw [str58] at hdc
                unfold U58 at hdc
                have hsa := fun W => str_add [dig58 r] tl (by have := hTL.out; simp only [List.length_cons, List.length_nil]; omega) W
                obtain ⟨DG, hDG⟩ : ∃ D, D = strB [dig58 r] := ⟨_, rfl⟩
                obtain ⟨TL, hTLs⟩ : ∃ D, D = strB tl := ⟨_, rfl⟩
                rw [← hDG] at hsa hdc
                rw [← hTLs] at hsa ⊢
                have hb4 := Lib.hid (hb2.out.trans (HB2.out.mono hb2.out.size))
                have HTLS := Lib.hid hTLs
                have hr3 := Lib.hid hr3'
                have hlt3 : ([dig58 r] ++ tl).length ≤ 300 := by have h := congrArg List.length hT3.out; simp only [List.length_map, List.length_append, List.length_reverse] at h ⊢; have := HT.out; omega
                have hms : 300 - strLen (.string (strB ([dig58 r] ++ tl))) < 300 - strLen (.string TL) := by
                  rw [HTLS.out]; simp only [strLen, strB_size]
                  simp only [List.length_append, List.length_cons, List.length_nil] at hlt3 ⊢
                  omega
                have HMS := Lib.hid hms
                clear hDG hTLs hr3' hms hlt3
                go_wp2_with fail
                go_roundw
                case rel => exact ⟨v2, [dig58 r] ++ tl, q3, n3, c3, rfl, rfl, hn300, hr3, hn3e, hT3, hb4⟩
                case measure => have h := HMS.out; rw [HTLS.out] at h; exact h
          · have hlp : ¬ (0 : Int) < (len : Int) := by omega
            have hN2 : N2 = 0 := by
              by_cases h : N2 = 0
              · exact h
              · have := (digs_pos_len N2).2 h; have := HL2.out; omega
            have HE : Hid (b58 bs = List.replicate k 49#8 ++ tl) := Lib.hid (by rw [HD.out, HT2.out, hN2, digs_zero]; rfl)
            have hsa := fun W => str_add (List.replicate k 49#8) tl (by rw [List.length_replicate]; have := hTL.out; omega) W
            rw [← HO.out] at hsa
            obtain ⟨TL, hTLs⟩ : ∃ D, D = strB tl := ⟨_, rfl⟩
            rw [← hTLs] at hsa ⊢
            clear hTLs hN2
            go_wp2_with fail
            go_ret
            exact ⟨by rw [HE.out]; rfl, hb2.out⟩
end Go.Proofs.YtbkpgdfkjijagaaDoor
