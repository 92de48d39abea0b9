/- sporranlaw07.TxOnce: the walk. -/
import Derived.Test.YthglocpbdfcfnaaTxA
import Derived.Test.YthglocpbdfcfnaaTxY
import Derived.Test.YthglocpbdfcfnaaTxQd
import Derived.Test.YthglocpbdfcfnaaAppG
namespace Go.Proofs.Ythglocpbdfcfnaa
open Go Go.RowKit
set_option linter.unusedVariables false

/-- a parser's errors are none of them nought -/
def NZ {α : Type} (p : Pz α) : Prop := ∀ s k, p s = .error k → k ≠ 0
theorem NZ.ret {α : Type} (a : α) : NZ (Pz.ret a) := fun s k h => by cases h
theorem NZ.fail {α : Type} {e : Int} (he : e ≠ 0) : NZ (Pz.fail (α := α) e) := fun s k h => by
  injection h with h
  rw [← h]
  exact he
theorem NZ.bind {α β : Type} {p : Pz α} {f : α → Pz β} (hp : NZ p) (hf : ∀ a, NZ (f a)) : NZ (p.bind f) := fun s k h => by
  cases hs : p s with
  | error e =>
    rw [Pz.bind_err hs] at h
    injection h with h
    rw [← h]
    exact hp s e hs
  | ok x =>
    obtain ⟨a, r⟩ := x
    rw [Pz.bind_ok hs] at h
    exact hf a r k h
theorem nz_take (n : Nat) : NZ (takeZ n) := fun s k h => by
  unfold takeZ at h
  split at h
  · injection h with h; rw [← h]; decide
  · cases h
theorem nz_num (w : Nat) : NZ (numZ w) := (nz_take w).bind fun _ => NZ.ret _
theorem nz_cnt (most : Nat) : NZ (cntZ most) := fun s k h => by
  unfold cntZ at h
  split at h
  · rename_i h0
    injection h with h; rw [← h]; exact h0
  · split at h
    · injection h with h; rw [← h]; decide
    · cases h
theorem nz_text : NZ textZ := (nz_cnt _).bind nz_take
theorem nz_many {α : Type} {p : Pz α} (h : NZ p) : ∀ n, NZ (manyZ p n)
  | 0 => NZ.ret _
  | n + 1 => h.bind fun _ => (nz_many h n).bind fun _ => NZ.ret _
theorem nz_in : NZ inZ := (nz_take 32).bind fun _ => (nz_num 4).bind fun _ => nz_text.bind fun _ => (nz_num 4).bind fun _ => NZ.ret _
theorem nz_out : NZ outZ := (nz_num 8).bind fun v => by
  split
  · exact NZ.fail (by decide)
  · exact nz_text.bind fun _ => NZ.ret _
theorem nz_wits : ∀ l, NZ (witsZ l)
  | [] => NZ.ret _
  | x :: l => ((nz_cnt 100).bind (nz_many nz_text)).bind fun _ => (nz_wits l).bind fun _ => NZ.ret _
theorem nz_ins : NZ insZ := (nz_cnt 2000).bind fun n => by
  split
  · exact NZ.fail (by decide)
  · exact nz_many nz_in n
theorem nz_wit (m : Bool) (l : List TIn) : NZ (witZ m l) := by
  unfold witZ
  split
  · exact (nz_wits l).bind fun l => by
      split
      · exact NZ.ret _
      · exact NZ.fail (by decide)
  · exact NZ.ret _
theorem nz_body (ve : BitVec 64) (m : Bool) : NZ (bodyZ ve m) := nz_ins.bind fun _ => ((nz_cnt 2000).bind (nz_many nz_out)).bind fun _ => (nz_wit m _).bind fun _ => (nz_num 4).bind fun _ => NZ.ret _
theorem nz_mark : NZ markZ := fun s k h => by
  unfold markZ at h
  split at h
  · refine ((nz_take 2).bind fun b => ?_) s k h
    split
    · exact NZ.ret _
    · exact NZ.fail (by decide)
  · cases h
theorem nz_tx : NZ txZ := (nz_num 4).bind fun ve => nz_mark.bind (nz_body ve)
theorem txDec_cases (bs : Bs) : ∃ T r k, txDecP bs = (T, r, k) ∧ (k = 0 → bs = txB T (hasWs T.is) ++ r ∧ canTx T = true) := by
  unfold txDecP
  cases h : txZ bs with
  | error k => exact ⟨_, _, k, rfl, fun h0 => absurd h0 (nz_tx bs k h)⟩
  | ok x =>
    obtain ⟨t, r⟩ := x
    obtain ⟨h1, h2, _⟩ := txZ_ok h
    exact ⟨t, r, 0, rfl, fun _ => ⟨h1, h2⟩⟩

set_option maxRecDepth 100000 in
set_option maxHeartbeats 8000000 in
theorem txOnce_walk (p : Option Addr) (n c : Nat) (bs : List (BitVec 8)) (W : World) (hn : bs.length = n) (hl : n ≤ c) (hcb : c ≤ 140737488351232) (hr : Row8 W p bs) (hp : p = none → c = 0) :
    Calls Try.prog 4 #[.slice p n c] W fun e w' => e = .returned (.bool true) ∧ Below W.heap.size W w' := by
  obtain ⟨T, r, k, hx, hk⟩ := txDec_cases bs
  have hz := zTx
  have hD := txDecode_any p n c bs W hr hn hl (by omega) (by omega) hp
  rw [hx] at hD
  have HSL : Hid (Sl W (.slice p n c) bs) := Lib.hid ⟨p, n, c, rfl, hn, hl, by unfold maxLen; omega, hr, hp⟩
  have HR := Lib.hid hr
  have HN := Lib.hid hn
  have HX := Lib.hid hx
  have HK := Lib.hid hk
  clear hr hn hx hk
  have hszw : Hid (W.heap.size ≤ W.heap.size) := Lib.hid (Nat.le_refl _)
  go_enter Try.func4, Try.ntmps4
  go_upto_region 2 with (first
    | (with_reducible refine hD.mono ?_
       rintro e w2 ⟨cs2, v2, rfl, hO, hov, hb2⟩
       simp only at hO hov
       have hone := hO.c.one
       have hcl2 : cs2.length = 4 := by obtain ⟨_, _, rfl, _⟩ := hO; rfl
       have HCL := Lib.hid hcl2
       have hbn := below_new w2 (.cells ZTx.toArray 26)
       have hzsz : ZTx.toArray.size = cs2.toArray.size := by rw [List.size_toArray, List.size_toArray, hcl2]; rfl
       have HO2 := Lib.hid hO.c
       have HV2 := Lib.hid hov
       have HB2 := Lib.hid hb2
       clear hO hov hcl2 hb2)
    | (with_reducible refine wp_store_blk (o := ⟨none, _, _, _, _, _⟩) ?_ 26 (.tmp 3) (.tmp 13) ?_ (w2.heap.size) 26 (ZTx.toArray) (cs2.toArray) ?_ ?_ (Blk.new w2 _ _) ?_ ?_ ?_ (w2.heap.size) (w2) ?_ ?_ ?_
       · rfl
       · rfl
       · rfl
       · rfl
       · exact (by rw [List.size_toArray]; exact info_Tx HCL.out)
       · exact (hzsz)
       · exact (hone)
       · exact (hbn)
       · exact (Nat.le_refl _)
       intro w3 hB3 hb3 hg3 hs3))
  have HW3 := Lib.hid (below_fut HB2.out hb3 hszw.out)
  have HC3 := Lib.hid (txC_keeps _ _ _ _ HO2.out hb3)
  have HV3 := Lib.hid (Own8.fut HV2.out hb3)
  have HB3 := Lib.hid hB3.out
  have hD := refTxDecode_any p n c bs w3 (HR.out.below HW3.out (Nat.le_refl _)) HN.out hl (by omega) (by omega) hp
  rw [HX.out] at hD
  obtain ⟨z3, hz3⟩ : ∃ z, z = w2.heap.size := ⟨_, rfl⟩
  rw [← hz3] at HB3 ⊢
  clear hz3 hbn hzsz hone hb3 hg3 hs3 hB3 HB2 HO2 HV2
  try simp only [put_none]
  go_upto_region 3 with (first
    | (with_reducible refine hD.mono ?_
       rintro e w4 ⟨cs4, v4, rfl, hO, hov, hb4⟩
       simp only at hO hov
       have hone := hO.c.one
       have hcl4 : cs4.length = 4 := by obtain ⟨_, _, rfl, _⟩ := hO; rfl
       have HCL4 := Lib.hid hcl4
       have hbn := below_new w4 (.cells ZTx.toArray 26)
       have hzsz : ZTx.toArray.size = cs4.toArray.size := by rw [List.size_toArray, List.size_toArray, hcl4]; rfl
       have HB4 := Lib.hid hb4
       clear hO hov hcl4 hb4)
    | (with_reducible refine wp_store_blk (o := ⟨none, _, _, _, _, _⟩) ?_ 26 (.tmp 6) (.tmp 19) ?_ (w4.heap.size) 26 (ZTx.toArray) (cs4.toArray) ?_ ?_ (Blk.new w4 _ _) ?_ ?_ ?_ (w4.heap.size) (w4) ?_ ?_ ?_
       · rfl
       · rfl
       · rfl
       · rfl
       · exact (by rw [List.size_toArray]; exact info_Tx HCL4.out)
       · exact (hzsz)
       · exact (hone)
       · exact (hbn)
       · exact (Nat.le_refl _)
       intro w5 hB5 hb5 hg5 hs5))
  have hb35 := below_fut HB4.out hb5 (Nat.le_refl _)
  have HW5 := Lib.hid (below_fut HW3.out hb35 hszw.out)
  have HC5 := Lib.hid (txC_keeps _ _ _ _ HC3.out hb35)
  have HV5 := Lib.hid (Own8.fut HV3.out hb35)
  have HB5 := Lib.hid (HB3.out.fut hb35)
  clear hb35 hbn hzsz hone hb5 hg5 hs5 hB5 HB4 HW3 HC3 HV3 HB3
  try simp only [put_none]
  have hne : (k != k) = false := by simp
  by_cases h0 : k = 0
  case neg =>
    have hne2 : (k != 0) = true := by simp [h0]
    go_wp2_with fail
    refine (awake_any _).mono ?_
    rintro e w6 ⟨rfl, hb6⟩
    go_wp2_with fail
    go_ret
    exact ⟨rfl, below_fut HW5.out hb6 hszw.out⟩
  subst h0
  obtain ⟨hbs, hcan⟩ := HK.out rfl
  have hE := txEncode_any T cs2 true w5 HC5.out
  have hP : txP T true = (txB T (hasWs T.is), 0) := by unfold txP; rw [hcan]; rfl
  rw [hP] at hE
  obtain ⟨b, hb⟩ : ∃ b, b = txB T (hasWs T.is) := ⟨_, rfl⟩
  rw [← hb] at hE hbs
  have HBS := Lib.hid hbs
  clear hbs hcan hP hb hne
  unfold OutB at hE
  simp only at hE
  have l5 := blk_range HB5.out
  go_upto_region 8 with (first
    | (with_reducible refine wpList_load_mid (op := ⟨some 29, _, _, _, _, _⟩) ?_ 26 (.tmp 3) ?_ (z3) (0) ?_ (cs2) _ (l5) Try.underlying26 ?_ ?_ ?_
       · rfl
       · rfl
       · rfl
       · rfl
       · exact ((info_Tx HCL.out)))
    | (with_reducible refine hE.mono ?_; rintro e w6 ⟨v6, rfl, ho6, hb6⟩))
  have HW6 := Lib.hid (below_fut HW5.out hb6 hszw.out)
  obtain ⟨p2, n2, c2, rfl, hn2, hnc2, hcm2, hr2⟩ := Own8.open (Own8.fut HV5.out hb6)
  have hlen : b.length + r.length ≤ 140737488355328 := by
    have := congrArg List.length HBS.out
    rw [List.length_append, HN.out] at this
    omega
  have hsz6 := hb6.size
  have hbr := Below.refl w6.heap.size w6
  clear l5 hE
  go_wp2_with ((with_reducible refine wp_append8G (o := ⟨some 38, _, _, _, _, _⟩) ?_ (.tmp 36) (.tmp 37) ?_ (w5.heap.size) _ (b) ?_ (ho6) (p2) (n2) (c2) (r) ?_ (hn2.out) (hr2) ?_ (hsz6) (w5.heap.size) (w6) ((hbr.mono hsz6)) ?_ ?_
                · rfl
                · rfl
                · rfl
                · rfl
                · exact hlen
                · exact Nat.le_refl _
                intro v7 w7 ho7 hb7 hg7 hj7))
  rw [← HBS.out] at ho7
  have HW7 : Hid (Below W.heap.size W w7) := Lib.hid (HW6.out.trans (hb7.mono HW5.out.size))
  refine (bEqual_any _ _ bs w7 ho7.sl (HSL.out.below HW7.out (Nat.le_refl _))).mono ?_
  rintro e w8 ⟨rfl, hw8⟩
  replace hw8 := hw8.symm
  subst hw8
  go_wp2_with fail
  go_ret
  exact ⟨rfl, HW7.out⟩
end Go.Proofs.Ythglocpbdfcfnaa
