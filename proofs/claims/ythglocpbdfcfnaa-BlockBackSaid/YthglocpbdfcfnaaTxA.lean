/- sporranlaw07.TxShort: the walk. -/
import Derived.Test.YthglocpbdfcfnaaTxW
import Derived.Test.YthglocpbdfcfnaaTxX
import Derived.Test.YthglocpbdfcfnaaTxL
namespace Go.Proofs.Ythglocpbdfcfnaa
open Go Go.RowKit
set_option linter.unusedVariables false

theorem TxC.ok {w : World} {t : TTx} {cs : List Value} (h : TxC w t cs) : okTx t := fun x hx => by
  obtain ⟨iv, ov, _, hi, _⟩ := h
  obtain ⟨cs, hc⟩ := hi.mem hx
  obtain ⟨_, _, _, h1, _⟩ := hc
  exact h1
theorem TxC.one {w : World} {t : TTx} {cs : List Value} (h : TxC w t cs) : cs.toArray.all (·.oneCell') = true := by
  obtain ⟨iv, ov, rfl, hi, ho⟩ := h
  rw [List.all_toArray]
  simp [Value.oneCell']
  exact ⟨hi.one, ho.one⟩
theorem txB_len {t : TTx} (h : canTx t = true) (hk : okTx t) (m : Bool) : 10 ≤ (txB t m).length := by
  obtain ⟨h1, _⟩ := canTx_all h
  obtain ⟨x, l, hl⟩ : ∃ x l, t.is = x :: l := by
    cases hi : t.is with
    | nil => rw [hi] at h1; simp at h1
    | cons x l => exact ⟨x, l, rfl⟩
  have hx : x.id.length = 32 := hk x (by rw [hl]; exact List.mem_cons_self ..)
  have h2 : 32 ≤ (insB t.is).length := by
    unfold insB
    rw [hl, List.length_append, List.map_cons, List.flatten_cons, List.length_append]
    unfold inB
    rw [List.length_append]
    omega
  unfold txB
  rw [List.length_append, List.length_append, List.length_append]
  omega
theorem txB_big {t : TTx} (h : canTx t = true) {w : World} {cs : List Value} (hc : TxC w t cs) (m : Bool) : (txB t m).length ≤ 10000000000 := by
  obtain ⟨iv, ov, _, hi, _⟩ := hc
  have h1 := insB_len h hi
  have h2 := outsB_len h
  obtain ⟨_, hn, _, hall, _⟩ := canTx_all h
  have h3 : (witsB t.is).length ≤ 2002000000 := by
    have h1 := flat_le (fun x => witB x.wi) 1001000 t.is (fun y hy => by
      have hy2 := hall y hy
      have h3 := flat_le text 10009 y.wi (fun b hb => text_le (hy2.2.2 b hb))
      have h4 := cntB_len y.wi.length
      unfold witB
      rw [List.length_append]
      have h5 := Nat.mul_le_mul hy2.2.1 (Nat.le_refl 10009)
      omega)
    have h3 := Nat.mul_le_mul hn (Nat.le_refl 1001000)
    unfold witsB
    omega
  unfold txB
  rw [List.length_append, List.length_append, List.length_append, List.length_append, List.length_append]
  cases m
  · simp [le32_len]; omega
  · simp [le32_len]; omega

theorem rem_small (z : Int) (n : Nat) (h : 0 < n) (hn : n ≤ 9223372036854775807) : ∃ k : Nat, wrap64 ((IntKind.u64.wrap z).tmod (n : Int)) = (k : Int) ∧ k < n := by
  have h0 : 0 ≤ IntKind.u64.wrap z := by
    have e : IntKind.u64.wrap z = z % 18446744073709551616 := by simp [IntKind.wrap, IntKind.bits, IntKind.signed]
    rw [e]
    exact Int.emod_nonneg _ (by omega)
  obtain ⟨u, hu⟩ := Int.eq_ofNat_of_zero_le h0
  rw [hu]
  have e : (u : Int).tmod (n : Int) = ((u % n : Nat) : Int) := rfl
  rw [e]
  have hlt := Nat.mod_lt u h
  refine ⟨u % n, ?_, hlt⟩
  unfold wrap64
  omega
theorem slice_h8k (w : World) (p : Option Addr) (m c k : Nat) (h2 : k ≤ c) :
    (Instr.sliceAt 27 (.slice p m c) none (some (.int .i64 (k : Int))) none).run Try.prog w = .ok (.slice p k c) w := by
  have hu : Try.prog.underlying 27 = some (.slice (Try.prog.elem 27)) := by kernel_rfl
  have hs : (sizeOf (Try.prog.elem 27)).run Try.prog w = .ok 1 w := by kernel_rfl
  rw [run_sliceAt_slice w _ _ _ _ _ hu, run_slice_h w _ _ _ _ hu _ _ (by omega) (by omega)]
  rw [hs]
  have e : p.map (fun x => x.add 0) = p := by
    cases p with
    | none => rfl
    | some a => rw [Option.map_some, addr_add0]
  simp [Result.andThen, sliced, e]

set_option maxRecDepth 100000 in
set_option maxHeartbeats 8000000 in
theorem txShort_walk (cs : Array Value) (t : TTx) (z : Int) (W : World) (h : TxC W t cs.toList) (hz1 : -9223372036854775808 ≤ z) (hz2 : z ≤ 9223372036854775807) :
    Calls Try.prog 3 #[.agg cs, .int .i64 z] W fun e w' => e = .returned (.bool true) ∧ Below W.heap.size W w' := by
  obtain ⟨cl, hcl⟩ : ∃ cl, cl = cs.toList := ⟨_, rfl⟩
  have hcs : cs = cl.toArray := by rw [hcl]
  subst hcs
  rw [← hcl] at h
  clear hcl
  have hl4 : cl.length = 4 := by obtain ⟨_, _, rfl, _⟩ := h; rfl
  have hb1 := below_new W (.cells cl.toArray 26)
  have HB1 := Lib.hid (Blk.new W 26 cl.toArray)
  have HC1 := Lib.hid (txC_keeps _ _ _ _ h hb1)
  have HW1 := Lib.hid hb1
  have HL := Lib.hid hl4
  clear h hb1 hl4
  go_enter Try.func3, Try.ntmps3
  go_upto_region 1 with fail
  generalize W.alloc (.cells cl.toArray 26) = w1 at *
  have l1 := blk_range HB1.out
  have hE := txEncode_any t cl true w1 HC1.out
  by_cases hcan : canTx t = true
  case neg =>
    have hcf : canTx t = false := by cases h : canTx t <;> simp_all
    have hP : txP t true = ([], 1) := by unfold txP; rw [hcf]; rfl
    rw [hP] at hE
    have HCF := Lib.hid hcf
    unfold OutB at hE
    simp only at hE
    clear hcan hcf hP
    go_upto_region 3 with (first
      | (with_reducible refine wpList_load_mid (op := ⟨some 11, _, _, _, _, _⟩) ?_ 26 (.tmp 2) ?_ (W.heap.size) (0) ?_ (cl) _ (l1) Try.underlying26 ?_ ?_ ?_
         · rfl
         · rfl
         · rfl
         · rfl
         · exact ((info_Tx HL.out)))
      | (with_reducible refine hE.mono ?_; rintro e w2 ⟨v, rfl, ho, hb2⟩))
    have HB2 := HB1.out.fut hb2
    have l2 := blk_range HB2
    have hC := refCan_any t cl w2 (txC_keeps _ _ _ _ HC1.out hb2)
    rw [HCF.out] at hC
    have HW2 := Lib.hid (below_fut HW1.out hb2 (Nat.le_refl _))
    clear ho hb2 l1 hE HB2
    go_wp2_with ((with_reducible refine wpList_load_mid (op := ⟨some 22, _, _, _, _, _⟩) ?_ 26 (.tmp 2) ?_ (W.heap.size) (0) ?_ (cl) _ (l2) Try.underlying26 ?_ ?_ ?_
                  · rfl
                  · rfl
                  · rfl
                  · rfl
                  · exact ((info_Tx HL.out))))
    refine hC.mono ?_
    rintro e w3 ⟨rfl, hb3⟩
    go_wp2_with fail
    refine (awake_any _).mono ?_
    rintro e w4 ⟨rfl, hb4⟩
    go_wp2_with fail
    go_ret
    exact ⟨rfl, below_fut (below_fut HW2.out hb3 (Nat.le_refl _)) hb4 (Nat.le_refl _)⟩
  case pos =>
    have hP : txP t true = (txB t (hasWs t.is), 0) := by unfold txP; rw [hcan]; rfl
    rw [hP] at hE
    have hlen := txB_len hcan HC1.out.ok (hasWs t.is)
    have hbig := txB_big hcan HC1.out (hasWs t.is)
    have hcut := fun n hn => txZ_cut t hcan HC1.out.ok n hn
    obtain ⟨b, hb⟩ : ∃ b, b = txB t (hasWs t.is) := ⟨_, rfl⟩
    rw [← hb] at hE hlen hbig hcut
    have HCUT := Lib.hid hcut
    have HLEN := Lib.hid hlen
    have HBIG := Lib.hid hbig
    clear hcan hP hcut hb hlen hbig
    unfold OutB at hE
    simp only at hE
    go_upto_region 2 with (first
      | (with_reducible refine wpList_load_mid (op := ⟨some 11, _, _, _, _, _⟩) ?_ 26 (.tmp 2) ?_ (W.heap.size) (0) ?_ (cl) _ (l1) Try.underlying26 ?_ ?_ ?_
         · rfl
         · rfl
         · rfl
         · rfl
         · exact ((info_Tx HL.out)))
      | (with_reducible refine hE.mono ?_; rintro e w2 ⟨v, rfl, ho, hb2⟩))
    obtain ⟨q, n, c, rfl, hn, hnc, hcm, hr⟩ := Own8.open ho
    have hq : q = none → c = 0 := by
      intro e
      subst e
      rcases ho.2 with ⟨e', _⟩ | ⟨_, _, _, e', _⟩
      · injection e'
      · injection e' with e'; cases e'
    have HN := Lib.hid hn
    have h10 : 10 ≤ n := by have := HLEN.out; have := hn.out; omega
    have hnb : n ≤ 10000000000 := by have := HBIG.out; have := hn.out; omega
    have hlt : ¬ (n : Int) < 10 := by omega
    have HW2 := Lib.hid (below_fut HW1.out hb2 (Nat.le_refl _))
    clear ho hb2 l1 hE hn
    have hnz : ¬ (n : Int) = 0 := by omega
    obtain ⟨k, hk, hkn⟩ := rem_small z n (by omega) (by omega)
    have hsl := slice_h8k w2 q n c k (by omega)
    have hdec := txDecode_any q k c (b.take k) w2 (hr.take k) (by rw [List.length_take]; have := HN.out.out; omega) (by omega) hcm (by omega) hq
    have hP : txDecP (b.take k) = (⟨0#32, [], [], 0#32⟩, [], 50) := by
      unfold txDecP
      rw [HCUT.out k (by have := HN.out.out; omega)]
    rw [hP] at hdec
    have hz := zTx
    clear hP hr hq hkn
    go_upto_region 5 with (first
      | (with_reducible refine hdec.mono ?_
         rintro e w3 ⟨cs, v, rfl, hO, hov, hb3⟩
         simp only at hov
         obtain ⟨q3, n3, c3, rfl, hn3, hnc3, hcm3, _⟩ := Own8.open hov
         obtain rfl : n3 = 0 := hn3.out.symm
         have hone := hO.c.one
         have hcl : cs.length = 4 := by obtain ⟨_, _, rfl, _⟩ := hO; rfl
         have HCL := Lib.hid hcl
         have hbn := below_new w3 (.cells ZTx.toArray 26)
         have hzsz : ZTx.toArray.size = cs.toArray.size := by rw [List.size_toArray, List.size_toArray, hcl]; rfl
         clear hO hov hcl)
      | (with_reducible refine wp_store_blk (o := ⟨none, _, _, _, _, _⟩) ?_ 26 (.tmp 7) (.tmp 39) ?_ (w3.heap.size) 26 (ZTx.toArray) (cs.toArray) ?_ ?_ (Blk.new w3 _ _) ?_ ?_ ?_ (w3.heap.size) (w3) ?_ ?_ ?_
         · rfl
         · rfl
         · rfl
         · rfl
         · exact (by rw [List.size_toArray]; exact info_Tx HCL.out)
         · exact (hzsz)
         · exact (hone)
         · exact (hbn)
         · exact (Nat.le_refl _)
         intro w5 hB5 hb5 hg5 hs5))
    have HW5 := Lib.hid (below_fut (below_fut HW2.out hb3 (Nat.le_refl _)) hb5 (Nat.le_refl _))
    clear hb3 hb5 hg5 hs5 hbn hdec
    go_wp2_with fail
    go_ret
    exact ⟨rfl, HW5.out⟩
end Go.Proofs.Ythglocpbdfcfnaa
