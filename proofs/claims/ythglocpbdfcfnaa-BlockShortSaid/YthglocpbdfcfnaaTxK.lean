/- sporranlaw07.TxReads: the walk. -/
import Derived.Test.YthglocpbdfcfnaaTxN
import Derived.Test.YthglocpbdfcfnaaSpoilT
namespace Go.Proofs.Ythglocpbdfcfnaa
open Go Go.RowKit
set_option linter.unusedVariables false

/-- the blocks of bytes from B on, as they are in a world -/
def S8 (B : Nat) (w : World) (k : Nat) : Prop := B ≤ k ∧ ∃ cs, Blk w k 5 cs
theorem S8.lt {B : Nat} {w : World} {k : Nat} (h : S8 B w k) : k < w.heap.size := by obtain ⟨_, cs, h⟩ := h; exact h.lt
theorem Own8.mineS {B : Nat} {w : World} {v : Value} {bs : Bs} (h : Own8 w B v bs) : ∃ q c, v = .slice q bs.length c ∧ bs.length ≤ c ∧ c ≤ 9223372036854775807 ∧ MineS w (S8 B w) q bs.length := by
  obtain ⟨p, c, rfl, h1, h2, _, h4⟩ := Mine.of h
  refine ⟨p, c, rfl, h1, by unfold maxLen at h2; omega, ?_⟩
  rcases h4 with h | ⟨g, o, cs, h1, h2, h3, h4⟩
  · exact .inl h
  · exact .inr ⟨g, o, cs, h1, ⟨h2, cs, h3⟩, h3, h4⟩
theorem TextO.m {B : Nat} {w : World} {x : Bs} {cs : List Value} (h : TextO B w x cs) : TextM (S8 B w) w x cs := by
  obtain ⟨v, rfl, h⟩ := h
  obtain ⟨q, c, rfl, h1, h2, h3⟩ := h.mineS
  exact ⟨q, _, c, rfl, h1, h2, h3⟩
theorem RowO.m {α : Type} {E E' : World → α → List Value → Prop} {T N B : Nat} {w : World} {v : Value} {xs : List α} (h : RowO E T N B w v xs) (hT : T ≠ 5) (hE : ∀ x cs, E w x cs → E' w x cs) : RowM (S8 B w) E' N w v xs := by
  refine ⟨h.e hE, fun k hk hS => ?_⟩
  obtain ⟨css, _, h2, _⟩ := h
  obtain ⟨_, cs, hc⟩ := hS
  rcases h2.2 with ⟨rfl, _⟩ | ⟨q, cap, cur, rfl, hB, hh, _⟩
  · cases hk
  · injection hk with hk
    subst hk
    exact hT (Blk.inj (show Blk w q T cur from hh) hc).1
theorem InO.m {B : Nat} {w : World} {x : TIn} {cs : List Value} (h : InO B w x cs) : InM (S8 B w) w x cs := by
  obtain ⟨sv, wv, h1, h2, h3, h4⟩ := h
  exact ⟨sv, wv, h1, h2, (show TextO B w x.sc [sv] from ⟨sv, rfl, h3⟩).m, h4.m (by decide) fun _ _ h => h.m⟩
theorem OutO.m {B : Nat} {w : World} {x : TOut} {cs : List Value} (h : OutO B w x cs) : OutM (S8 B w) w x cs := by
  obtain ⟨sv, h1, h3⟩ := h
  exact ⟨sv, h1, (show TextO B w x.sc [sv] from ⟨sv, rfl, h3⟩).m⟩
theorem TxO.m {B : Nat} {w : World} {t : TTx} {cs : List Value} (h : TxO B w t cs) : TxM (S8 B w) w t cs := by
  obtain ⟨iv, ov, h1, h2, h3⟩ := h
  exact ⟨iv, ov, h1, h2.m (by decide) fun _ _ h => h.m, h3.m (by decide) fun _ _ h => h.m⟩
/-- a header's cells, all nought -/
def zHc : List Value := [.int .u32 0] ++ List.replicate 64 (.int .u8 0) ++ [.int .u32 0, .int .u32 0, .int .u32 0]
theorem zHc_at (v : Value) : (zHc ++ [v])[68]? = some v := rfl
theorem built_blk (p : Option Addr) (n c : Nat) : Try.prog.built 48 [(1, .slice p n c)] = some (zHc ++ [Value.slice p n c]).toArray := by kernel_rfl
theorem tx_info : (Try.prog.info? 26).map (fun i => (i.zero, i.size, i.bytes)) = some (some (.agg ZTx.toArray), 4, 64) := by kernel_rfl
/-- a literal row of one transaction -/
theorem TxM.lit {S : Nat → Prop} {w w' : World} {t : TTx} {cs : List Value} {b : Nat} {T : TypeId} (h : TxM S w t cs) (hp : Pok S w w') (hb : Blk w' b T cs.toArray) (hn : ¬ S b) : RowM S (TxM S) 4 w' (.slice (some ⟨b, 0, none⟩) 1 1) [t] := by
  refine ⟨⟨_, _, _, rfl, rfl, Nat.le_refl _, by unfold maxLen; omega, fun _ => ⟨b, 0, rfl, hb.lt, fun i x hi => ?_⟩, fun e => by cases e⟩, fun k hk => ?_⟩
  · cases i with
    | zero =>
      injection hi with hi
      subst hi
      exact ⟨cs, txM_keeps S _ _ _ _ h hp, by rw [Nat.zero_mul]; exact blk_range hb⟩
    | succ i => cases hi
  · injection hk with hk
    subst hk
    exact hn

set_option maxRecDepth 100000 in
set_option maxHeartbeats 8000000 in
theorem txReads_walk (p : Option Addr) (n c : Nat) (bs : List (BitVec 8)) (W : World) (hn : bs.length = n) (hl : n ≤ c) (hcb : c ≤ 140737488351232) (hr : Row8 W p bs) (hp : p = none → c = 0) :
    Calls Try.prog 5 #[.slice p n c] W fun e w' => e = .returned (.bool true) ∧ Below W.heap.size W w' := by
  obtain ⟨T, r, k, hx, _⟩ := txDec_cases bs
  have hz := zTx
  have hC := clone_any p n c bs W hr hn (by omega) (fun e => by have := hp e; omega)
  have HSL : Hid (Sl W (.slice p n c) bs) := Lib.hid ⟨p, n, c, rfl, hn, hl, by unfold maxLen; omega, hr, hp⟩
  have HR := Lib.hid hr
  have HN := Lib.hid hn
  have HX := Lib.hid hx
  clear hr hn hx
  have hszw : Hid (W.heap.size ≤ W.heap.size) := Lib.hid (Nat.le_refl _)
  go_enter Try.func5, Try.ntmps5
  go_wp2_with fail
  refine hC.mono ?_
  rintro e w2 ⟨v2, rfl, ho2, hb2⟩
  have HW2 := Lib.hid hb2
  have HO2 := Lib.hid ho2
  obtain ⟨q2, n2, c2, rfl, hn2, hnc2, hcm2, hr2⟩ := Own8.open ho2
  have hp2 : q2 = none → c2 = 0 := by
    obtain ⟨p', n', c', e, _, _, _, _, h6⟩ := ho2.sl
    injection e with e1 e2 e3
    subst e1 e2 e3
    exact h6
  have hD := txDecode_any q2 n2 c2 bs w2 hr2 hn2.out hnc2 hcm2 (by have := hn2.out; have := HN.out; omega) hp2
  rw [HX.out] at hD
  obtain ⟨B, hB⟩ : ∃ B, B = w2.heap.size := ⟨_, rfl⟩
  have HBe := Lib.hid hB
  have HWB : Hid (W.heap.size ≤ B) := Lib.hid (by rw [hB]; exact hb2.size)
  clear hC ho2 hr2 hn2 hb2 hB hp2
  go_upto_region 3 with (first
    | (with_reducible refine hD.mono ?_
       rintro e w3 ⟨cs2, v3, rfl, hO, hov, hb3⟩
       simp only at hO hov
       rw [← HBe.out] at hO hov
       have hone := hO.c.one
       have hcl2 : cs2.length = 4 := by obtain ⟨_, _, rfl, _⟩ := hO; rfl
       have HCL := Lib.hid hcl2
       have hbn := below_new w3 (.cells ZTx.toArray 26)
       have hzsz : ZTx.toArray.size = cs2.toArray.size := by rw [List.size_toArray, List.size_toArray, hcl2]; rfl
       have HO3 := Lib.hid hO
       have HV3 := Lib.hid hov
       have HB3 := Lib.hid hb3
       clear hO hov hcl2 hb3)
    | (with_reducible refine wp_store_blk (o := ⟨none, _, _, _, _, _⟩) ?_ 26 (.tmp 4) (.tmp 16) ?_ (w3.heap.size) 26 (ZTx.toArray) (cs2.toArray) ?_ ?_ (Blk.new w3 _ _) ?_ ?_ ?_ (w3.heap.size) (w3) ?_ ?_ ?_
       · rfl
       · rfl
       · rfl
       · rfl
       · exact (by rw [List.size_toArray]; exact info_Tx HCL.out)
       · exact (hzsz)
       · exact (hone)
       · exact (hbn)
       · exact (Nat.le_refl _)
       intro w4 hB4 hb4 hg4 hs4))
  have HB4 := Lib.hid (below_fut HB3.out hb4 (Nat.le_refl _))
  have HW4 := Lib.hid (below_fut HW2.out HB4.out hszw.out)
  have HO4 := Lib.hid (txO_keeps _ _ _ _ _ _ HO3.out (Stays.of_below hb4 (Nat.le_refl _) (fun _ => False)) (fun _ h => h.elim))
  have HV4 := Lib.hid (Own8.fut HV3.out hb4)
  have HT4 := Lib.hid hB4.out
  have hD2 := refTxDecode_any p n c bs w4 (HR.out.below HW4.out (Nat.le_refl _)) HN.out hl (by omega) (by omega) hp
  rw [HX.out] at hD2
  obtain ⟨z4, hz4⟩ : ∃ z, z = w3.heap.size := ⟨_, rfl⟩
  have HZ4 : Hid (B ≤ z4) := Lib.hid (by rw [hz4, HBe.out]; exact HB3.out.size)
  rw [← hz4] at HT4 ⊢
  clear hz4 hbn hzsz hb4 hg4 hs4 hB4 HB3 HO3 HV3 hD
  try simp only [put_none]
  go_upto_region 4 with (first
    | (with_reducible refine hD2.mono ?_
       rintro e w5 ⟨cs5, v5, rfl, hO, hov, hb5⟩
       simp only at hO hov
       have hone5 := hO.c.one
       have hcl5 : cs5.length = 4 := by obtain ⟨_, _, rfl, _⟩ := hO; rfl
       have HCL5 := Lib.hid hcl5
       have hbn := below_new w5 (.cells ZTx.toArray 26)
       have hzsz : ZTx.toArray.size = cs5.toArray.size := by rw [List.size_toArray, List.size_toArray, hcl5]; rfl
       have HO5 := Lib.hid hO.c
       have HV5 := Lib.hid hov.sl
       have HB5 := Lib.hid hb5
       clear hO hov hcl5 hb5)
    | (with_reducible refine wp_store_blk (o := ⟨none, _, _, _, _, _⟩) ?_ 26 (.tmp 7) (.tmp 22) ?_ (w5.heap.size) 26 (ZTx.toArray) (cs5.toArray) ?_ ?_ (Blk.new w5 _ _) ?_ ?_ ?_ (w5.heap.size) (w5) ?_ ?_ ?_
       · rfl
       · rfl
       · rfl
       · rfl
       · exact (by rw [List.size_toArray]; exact info_Tx HCL5.out)
       · exact (hzsz)
       · exact (hone5)
       · exact (hbn)
       · exact (Nat.le_refl _)
       intro w6 hB6 hb6 hg6 hs6))
  have hb46 := below_fut HB5.out hb6 (Nat.le_refl _)
  have HB6 := Lib.hid (below_fut HB4.out hb46 (Nat.le_refl _))
  have HO6 := Lib.hid (txO_keeps _ _ _ _ _ _ HO4.out (Stays.of_below hb46 (Nat.le_refl _) (fun _ => False)) (fun _ h => h.elim))
  have HV6 := Lib.hid (Own8.fut HV4.out hb46)
  have HT6 := Lib.hid (HT4.out.fut hb46)
  have HU6 := Lib.hid hB6.out
  have HX6 := Lib.hid (txC_keeps _ _ _ _ HO5.out hb6)
  have HL6 := Lib.hid (HV5.out.fut hb6)
  clear hb46 hbn hzsz hb6 hg6 hs6 hB6 HB5 HB4 HW4 HO4 HV4 HT4 HO5 HV5 hone5 hD2
  try simp only [put_none]
  have l1 := blk_range HT6.out
  have l2 := blk_range HU6.out
  have hst := sameTx_any T cs2 cs5 w6 HO6.out.c HX6.out
  have hkk : (k == k) = true := by simp
  go_wp2_with (first
    | (with_reducible refine wpList_load_mid (op := ⟨some 25, _, _, _, _, _⟩) ?_ 26 (.tmp 4) ?_ (z4) (0) ?_ (cs2) _ (l1) Try.underlying26 ?_ ?_ ?_
       · rfl
       · rfl
       · rfl
       · rfl
       · exact ((info_Tx HCL.out)))
    | (with_reducible refine wpList_load_mid (op := ⟨some 26, _, _, _, _, _⟩) ?_ 26 (.tmp 7) ?_ (w5.heap.size) (0) ?_ (cs5) _ (l2) Try.underlying26 ?_ ?_ ?_
       · rfl
       · rfl
       · rfl
       · rfl
       · exact ((info_Tx HCL5.out))))
  refine hst.mono ?_
  rintro e w7 ⟨rfl, hb7⟩
  have HB7 := Lib.hid (below_fut HB6.out hb7 (Nat.le_refl _))
  have HO7 := Lib.hid (txO_keeps _ _ _ _ _ _ HO6.out (Stays.of_below hb7 (Nat.le_refl _) (fun _ => False)) (fun _ h => h.elim))
  have HV7 := Lib.hid (Own8.fut HV6.out hb7)
  have HT7 := Lib.hid (HT6.out.fut hb7)
  have HL7 := Lib.hid (HL6.out.fut hb7)
  clear hb7 HB6 HO6 HV6 HT6 HL6 HU6 HX6 l1 l2 hst
  go_wp2_with fail
  refine (bEqual_any _ _ r w7 HV7.out.sl HL7.out).mono ?_
  rintro e w8 ⟨rfl, hw8⟩
  replace hw8 := hw8.symm
  subst hw8
  have hm7 : TxM (S8 B w7) w7 T cs2 := HO7.out.m
  have hv7 := HV7.out.mineS
  obtain ⟨S, hS⟩ : ∃ S, S = S8 B w7 := ⟨_, rfl⟩
  have hSlt : ∀ k, S k → k < w7.heap.size := fun k h => by rw [hS] at h; exact h.lt
  have hSB : ∀ k, S k → B ≤ k := fun k h => by rw [hS] at h; exact h.1
  rw [← hS] at hm7 hv7
  obtain ⟨q3, c3, rfl, hmc3, hcm3, hms⟩ := hv7
  obtain ⟨m, hm⟩ : ∃ m, m = r.length := ⟨_, rfl⟩
  rw [← hm] at hmc3 hms ⊢
  have HTM := Lib.hid hm7
  have HMS := Lib.hid hms
  have HLT := Lib.hid hSlt
  have HSB := Lib.hid hSB
  have l7 := blk_range HT7.out
  have hlit7 := TxM.lit HTM.out (Pok.fut (below_new w7 (.cells cs2.toArray 26))) (Blk.new w7 26 cs2.toArray) (fun h => by have := HLT.out _ h; omega)
  have hpk := @Pok.fut S w7 (w7.alloc (.cells cs2.toArray 26)) (below_new w7 _)
  have hSlt8 : ∀ k, S k → k < (w7.alloc (.cells cs2.toArray 26)).heap.size := fun k h => Nat.lt_of_lt_of_le (HLT.out k h) (below_new w7 _).size
  have hbt := built_blk (some ⟨w7.heap.size, 0, none⟩) 1 1
  have HL1 := Lib.hid hlit7
  have HPK := Lib.hid hpk
  have HL8 := Lib.hid hSlt8
  clear hS hSlt hSB hm7 hms hm hlit7 hpk hSlt8 HO7 HL7 HV7
  go_wp2_with (first
    | (with_reducible refine wpList_load_mid (op := ⟨some 38, _, _, _, _, _⟩) ?_ 26 (.tmp 4) ?_ (z4) (0) ?_ (cs2) _ (l7) Try.underlying26 ?_ ?_ ?_
       · rfl
       · rfl
       · rfl
       · rfl
       · exact ((info_Tx HCL.out)))
    | (with_reducible refine wp_lit (o := ⟨some 39, _, _, _, _, _⟩) ?_ 42 26 1 #[(0, .tmp 38)] ?_ [.agg cs2.toArray] ?_ 4 64 _ Try.underlying42 tx_info ?_ ?_ ?_ ?_ ?_ ?_
       · rfl
       · rfl
       · rfl
       · omega
       · exact (fun v hv => by rw [List.mem_singleton.1 hv]; show cs2.toArray.size = 4; rw [List.size_toArray]; exact HCL.out)
       · rfl
       · omega
       · omega
       simp only [List.flatMap_cons, List.flatMap_nil, List.append_nil, Value.cells])
    | (with_reducible refine wp_build (o := ⟨some 40, _, _, _, _, _⟩) ?_ 48 #[(1, .tmp 39)] ?_ [(1, .slice (some ⟨w7.heap.size, 0, none⟩) 1 1)] ?_ (zHc ++ [.slice (some ⟨w7.heap.size, 0, none⟩) 1 1]).toArray hbt ?_
       · rfl
       · rfl
       · rfl))
  refine (spoilBlock_any S _ _ [T] _ HL8.out (zHc_at _) HL1.out).mono ?_
  rintro e w9 ⟨rfl, hp9⟩
  have hpk9 := HPK.out.trans hp9
  have hms9 := hpk9.mi _ _ HMS.out
  have HL9 := Lib.hid hpk9.st
  have hsz9 := hpk9.st.size
  have hmr : MineRowsS (w9.alloc (.cells #[.slice q3 m c3] 27)) S (some ⟨w9.heap.size, 0, none⟩) 1 :=
    TextM.lit hms9 hmc3 hcm3 (Pok.fut (below_new w9 _)) (Blk.new w9 27 #[.slice q3 m c3]) (fun h => by have := HLT.out _ h; omega)
  have HMR := Lib.hid hmr
  clear hpk9 hms9 hp9 hmr hsz9 HL1 HL8 HPK HTM HMS l7 hbt
  go_wp2_with fail
  refine (spoilM_any S (some ⟨w9.heap.size, 0, none⟩) 1 1 _ (by omega) (by omega) HMR.out).mono ?_
  rintro e w10 ⟨rfl, hp10⟩
  have hst : Stays S w7 w10 := (HL9.out.trans (Stays.of_below (below_new w9 _) (Nat.le_refl _) _) fun _ _ h => h).trans hp10.st fun _ _ h => h
  have hb10 : Below B w7 w10 := hst.below (by have := HB7.out.size; have := HBe.out; omega) HSB.out
  have hbg : Below B w2 w10 := (HB7.out.mono (by rw [HBe.out]; exact Nat.le_refl _)).trans hb10
  have hgiven : Sl w10 (.slice q2 n2 c2) bs := HO2.out.sl.below hbg (by rw [HBe.out]; exact Nat.le_refl _)
  have HW10 : Hid (Below W.heap.size W w10) := Lib.hid (HW2.out.trans (hbg.mono HWB.out))
  have HG := Lib.hid hgiven
  clear hst hb10 hbg hgiven hp10 HMR HL9
  go_wp2_with fail
  refine (bEqual_any _ _ bs w10 HG.out (HSL.out.below HW10.out (Nat.le_refl _))).mono ?_
  rintro e w11 ⟨rfl, hw11⟩
  replace hw11 := hw11.symm
  subst hw11
  go_wp2_with fail
  refine (awake_any _).mono ?_
  rintro e w12 ⟨rfl, hb12⟩
  go_wp2_with fail
  go_ret
  exact ⟨rfl, below_fut HW10.out hb12 hszw.out⟩
end Go.Proofs.Ythglocpbdfcfnaa
