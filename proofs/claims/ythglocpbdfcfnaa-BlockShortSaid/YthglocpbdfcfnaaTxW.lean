/- tx.Decode: the walk; a reader's panic is caught. -/
import Derived.Test.YthglocpbdfcfnaaTxV
import Derived.Defers
import Derived.Recover
namespace Go.Proofs.Ythglocpbdfcfnaa
open Go Go.RowKit
set_option linter.unusedVariables false

theorem assert_nil (w : World) : (Instr.typeAssert .nilIface 20 28 true).run Try.prog w = .ok (.tuple #[.int .i64 0, .bool false]) w := by
  kernel_rfl
theorem assert_errno (k : Int) (w : World) : (Instr.typeAssert (.iface 28 (.int .i64 k)) 20 28 true).run Try.prog w = .ok (.tuple #[.int .i64 k, .bool true]) w := by
  kernel_rfl
theorem catch_tmps (a b c : Value) : #[a, b, c] ++ Array.replicate (Try.f35.ntmps - #[a, b, c].size) undef = #[a, b, c, undef, undef, undef, undef, undef, undef, undef, undef, undef, undef] := by rfl
set_option maxRecDepth 100000 in
set_option maxHeartbeats 4000000 in
theorem catch_idle (z2 z3 z4 : Nat) (w : World) :
    CallsD Try.prog 35 #[.pointer (some ⟨z2, 0, none⟩), .pointer (some ⟨z3, 0, none⟩), .pointer (some ⟨z4, 0, none⟩)] .returning w fun e u' w' => e = .returned (.tuple #[]) ∧ u' = .returning ∧ w' = w := by
  refine callsD_of_wpS Try.func35 rfl fun c₀ cs hu => ?_
  have ht := assert_nil
  have ht2 := assert_errno
  apply wpS_seq
  apply wpS_region
  show wpOpsS _ _ _ _ ⟨#[_, _, _] ++ Array.replicate (Try.f35.ntmps - #[_, _, _].size) undef, []⟩ _ _
  rw [catch_tmps]
  simp [wpOpsS, go_sem, recoverD, hu, Exit.thenS, ht]
  refine wpS_of_wp ?_
  clear ht ht2
  go_wp2_with fail
  refine ⟨rfl, .returning, ?_, _, results_none rfl _ _ _, rfl, rfl, rfl⟩
  cases c₀
  simp only at hu
  rw [hu]
set_option maxRecDepth 100000 in
set_option maxHeartbeats 4000000 in
theorem catch_panic (z2 z3 z4 : Nat) (k : Int) (w : World) (cs2 : Array Value) (v3 v4 : Value) (h2 : Blk w z2 26 cs2) (h2s : cs2.size = 4) (h3 : Blk w z3 27 #[v3]) (h4 : Blk w z4 28 #[v4]) (h23 : z2 ≠ z3) (h24 : z2 ≠ z4) (h34 : z3 ≠ z4) :
    CallsD Try.prog 35 #[.pointer (some ⟨z2, 0, none⟩), .pointer (some ⟨z3, 0, none⟩), .pointer (some ⟨z4, 0, none⟩)] (.panicking ({ v := .iface 28 (.int .i64 k), recovered := false } :: [])) w fun e u' w' =>
      e = .returned (.tuple #[]) ∧ u' = .panicking ({ v := .iface 28 (.int .i64 k), recovered := true } :: []) ∧ Blk w' z2 26 ZTx.toArray ∧ Blk w' z3 27 #[.slice none 0 0] ∧ Blk w' z4 28 #[.int .i64 k] ∧ Stays (fun j => j = z2 ∨ j = z3 ∨ j = z4) w w' := by
  refine callsD_of_wpS Try.func35 rfl fun c₀ cs hu => ?_
  have ht2 := assert_errno
  apply wpS_seq
  apply wpS_region
  show wpOpsS _ _ _ _ ⟨#[_, _, _] ++ Array.replicate (Try.f35.ntmps - #[_, _, _].size) undef, []⟩ _ _
  rw [catch_tmps]
  simp [wpOpsS, go_sem, recoverD, hu, Exit.thenS, ht2]
  refine wpS_of_wp ?_
  clear ht2
  obtain ⟨md, hmd⟩ : ∃ md, md = FrameMode.panicking [{ v := .iface 28 (.int .i64 k), recovered := true }] := ⟨_, rfl⟩
  rw [← hmd]
  have hbt : Try.prog.built 26 [] = some ZTx.toArray := by kernel_rfl
  have hz1 : cs2.size = ZTx.toArray.size := h2s
  have hi := info_Tx (cs := ZTx) rfl
  have hbr := Below.refl 0 w
  have H3 := Lib.hid h3
  have H4 := Lib.hid h4
  have HU := Lib.hid hu
  clear hu h3 h4 hmd
  go_wp2_with (first
    | (with_reducible refine wp_build (o := ⟨some 11, _, _, _, _, _⟩) ?_ 26 #[] ?_ [] ?_ ZTx.toArray hbt ?_
       · rfl
       · rfl
       · rfl)
    | (with_reducible refine wp_store_blk (o := ⟨none, _, _, _, _, _⟩) ?_ 26 (.tmp 0) (.tmp 11) ?_ z2 26 cs2 ZTx.toArray ?_ ?_ h2 ?_ ?_ ?_ 0 w hbr (Nat.zero_le _) ?_
       · rfl
       · rfl
       · rfl
       · rfl
       · exact hi
       · exact hz1
       · rw [List.all_toArray]; rfl
       intro w5 hB5 hb5 hg5 hs5
       have hst5 := Stays.of_grown (S := fun k => k = z2) hg5.out (fun k h => by injection h with h; exact h.symm)
       have h35 := H3.out.stays hst5 (fun h => h23 h.symm)
       have h45 := H4.out.stays hst5 (fun h => h24 h.symm)
       have c3 := h35.cell 0
       have f3 := h35.frozen 0
       have h456 := h45.stays (Stays.set w5 z3 0 (.slice none 0 0)) (fun h => h34 h.symm)
       have c4 := h456.cell 0
       have f4 := h456.frozen 0
       simp only [List.getElem?_toArray, List.getElem?_cons_zero] at c3 c4))
  have hB5' := hB5.out
  refine ⟨rfl, md, rfl, _, results_none rfl _ _ _, rfl, rfl, ?_, ?_, ?_, ?_⟩
  · exact (hB5'.stays (Stays.set _ _ _ _) h23).stays (Stays.set _ _ _ _) h24
  · exact ((h35.set 0 _).stays (Stays.set _ _ _ _) h34)
  · exact h456.set 0 _
  · exact ((hst5.mono (S' := fun j => j = z2 ∨ j = z3 ∨ j = z4) fun _ _ h => .inl h).trans (Stays.set w5 z3 0 _) (fun _ _ h => .inr (.inl h))).trans (Stays.set _ z4 0 _) fun _ _ h => .inr (.inr h)

theorem zTx_no8 (o : Nat) (x : BitVec 8) : ZTx[o]? ≠ some (u8 x) := by
  match o with
  | 0 => intro h; cases h
  | 1 => intro h; cases h
  | 2 => intro h; cases h
  | 3 => intro h; cases h
  | n + 4 => intro h; cases h
theorem RowO.mono {α : Type} {E E' : World → α → List Value → Prop} {T N B B' : Nat} {w : World} {v : Value} {xs : List α} (h : RowO E T N B w v xs) (hE : ∀ x cs, E w x cs → E' w x cs) (hB : B' ≤ B) : RowO E' T N B' w v xs := by
  obtain ⟨css, h1, h2, h3⟩ := h
  refine ⟨css, h1, ownsRow_mono h2 hB, fun i x hx => ?_⟩
  obtain ⟨cs, h4, h5, h6⟩ := h3 i x hx
  exact ⟨cs, h4, hE _ _ h5, h6⟩
theorem TextO.mono {B B' : Nat} {w : World} {x : Bs} {cs : List Value} (h : TextO B w x cs) (hB : B' ≤ B) : TextO B' w x cs := by obtain ⟨v, h1, h2⟩ := h; exact ⟨v, h1, ownsRow_mono h2 hB⟩
theorem InO.mono {B B' : Nat} {w : World} {x : TIn} {cs : List Value} (h : InO B w x cs) (hB : B' ≤ B) : InO B' w x cs := by obtain ⟨sv, wv, h1, h2, h3, h4⟩ := h; exact ⟨sv, wv, h1, h2, ownsRow_mono h3 hB, h4.mono (fun _ _ h => h.mono hB) hB⟩
theorem OutO.mono {B B' : Nat} {w : World} {x : TOut} {cs : List Value} (h : OutO B w x cs) (hB : B' ≤ B) : OutO B' w x cs := by obtain ⟨sv, h1, h2⟩ := h; exact ⟨sv, h1, ownsRow_mono h2 hB⟩
theorem TxO.mono {B B' : Nat} {w : World} {x : TTx} {cs : List Value} (h : TxO B w x cs) (hB : B' ≤ B) : TxO B' w x cs := by obtain ⟨iv, ov, h1, h2, h3⟩ := h; exact ⟨iv, ov, h1, h2.mono (fun _ _ h => h.mono hB) hB, h3.mono (fun _ _ h => h.mono hB) hB⟩
/-- what a transaction's bytes say: it, what stands behind, the error -/
def txDecP (s : Bs) : TTx × Bs × Int := match txZ s with
  | .ok (t, r) => (t, r, 0)
  | .error k => (⟨0#32, [], [], 0#32⟩, [], k)
def DecTx (w : World) (x : TTx × Bs × Int) (e : Ending) (w' : World) : Prop := ∃ cs v, e = .returned (.tuple #[.agg cs.toArray, v, .int .i64 x.2.2]) ∧ TxO w.heap.size w' x.1 cs ∧ Own8 w' w.heap.size v x.2.1 ∧ Below w.heap.size w w'
theorem results_cells3 {fn : Func} {p u v : Tmp} {ty tu tv : TypeId} (h : fn.results = #[.cell p ty, .cell u tu, .cell v tv]) (tmps : Array Value) (P : Program) (w : World) (g g2 g3 : Nat) (t : TypeId) (cs : List Value) (x y : Value) (d : TypeDesc)
    (hp : tmps.getD p undef = .pointer (some ⟨g, 0, none⟩)) (hu' : tmps.getD u undef = .pointer (some ⟨g2, 0, none⟩)) (hv' : tmps.getD v undef = .pointer (some ⟨g3, 0, none⟩)) (hg : Blk w g t cs.toArray) (hu : P.underlying ty = some d) (hd : d.isRow = true) (hi : (P.info? ty).map (·.size) = some cs.length)
    (h2 : ∀ w', w' = w → (loadVar tu ⟨g2, 0, none⟩).run P w' = .ok x w') (h3 : ∀ w', w' = w → (loadVar tv ⟨g3, 0, none⟩).run P w' = .ok y w') :
    (results fn tmps).run P w = .ok (.tuple #[.agg cs.toArray, x, y]) w := by
  have hp' : tmps[p]?.getD undef = .pointer (some ⟨g, 0, none⟩) := by simpa using hp
  have hp2 : tmps[u]?.getD undef = .pointer (some ⟨g2, 0, none⟩) := by simpa using hu'
  have hp3 : tmps[v]?.getD undef = .pointer (some ⟨g3, 0, none⟩) := by simpa using hv'
  simp [results, h, hp', hp2, hp3, asAddr, run_loadVar_mid w g 0 ty cs d (blk_range hg) hu hd hi, h2 w rfl, h3 w rfl]

set_option maxRecDepth 100000 in
set_option maxHeartbeats 8000000 in
theorem txDecode_any (p : Option Addr) (n c : Nat) (s : Bs) (w : World) (hr : Row8 w p s) (hn : s.length = n) (hl : n ≤ c) (hb : c ≤ 9223372036854775807) (hbig : n ≤ 200000000000000) (hp : p = none → c = 0) :
    Calls Try.prog 13 #[.slice p n c] w (DecTx w (txDecP s)) := by
  have hmf : ∀ (fn : Fn) (first cap : Array Value) (w : World), (Instr.makeFunc fn first cap).run Try.prog w = .ok (.func fn first cap) w := fun _ _ _ _ => rfl
  have hz := zTx
  go_enter_defers Try.func13, Try.ntmps13
  go_upto_region 3 with fail
  obtain ⟨z2, hz2⟩ : ∃ z, z = w.heap.size := ⟨_, rfl⟩
  have HB2 := Lib.hid (((Blk.new w 26 ZTx.toArray).alloc (.cells #[.slice none 0 0] 27)).alloc (.cells #[.int .i64 0] 28) |>.alloc (.cells #[.slice p n c] 75))
  have HB3 := Lib.hid (((Blk.new (w.alloc (.cells ZTx.toArray 26)) 27 #[.slice none 0 0]).alloc (.cells #[.int .i64 0] 28)).alloc (.cells #[.slice p n c] 75))
  have HB4 := Lib.hid ((Blk.new ((w.alloc (.cells ZTx.toArray 26)).alloc (.cells #[.slice none 0 0] 27)) 28 #[.int .i64 0]).alloc (.cells #[.slice p n c] 75))
  have HBg := Lib.hid (Blk.new (((w.alloc (.cells ZTx.toArray 26)).alloc (.cells #[.slice none 0 0] 27)).alloc (.cells #[.int .i64 0] 28)) 75 #[.slice p n c])
  have hbw : Below w.heap.size w ((((w.alloc (.cells ZTx.toArray 26)).alloc (.cells #[.slice none 0 0] 27)).alloc (.cells #[.int .i64 0] 28)).alloc (.cells #[.slice p n c] 75)) :=
    (((below_new w _).alloc (by simp only [World.size_alloc]; omega) _).alloc (by simp only [World.size_alloc]; omega) _).alloc (by simp only [World.size_alloc]; omega) _
  have hsz : ((((w.alloc (.cells ZTx.toArray 26)).alloc (.cells #[.slice none 0 0] 27)).alloc (.cells #[.int .i64 0] 28)).alloc (.cells #[.slice p n c] 75)).heap.size = w.heap.size + 4 := by simp only [World.size_alloc]
  simp only [World.size_alloc] at HB3 HB4 HBg
  generalize (((w.alloc (.cells ZTx.toArray 26)).alloc (.cells #[.slice none 0 0] 27)).alloc (.cells #[.int .i64 0] 28)).alloc (.cells #[.slice p n c] 75) = W4 at *
  have HW := Lib.hid hbw
  rw [← hz2] at HB2 HB3 HB4 HBg hsz ⊢
  obtain ⟨z3, hz3⟩ : ∃ z, z = z2 + 1 := ⟨_, rfl⟩
  rw [← hz3] at HB3 HB4 HBg ⊢
  obtain ⟨z4, hz4⟩ : ∃ z, z = z3 + 1 := ⟨_, rfl⟩
  rw [← hz4] at HB4 HBg ⊢
  obtain ⟨g, hg⟩ : ∃ z, z = z4 + 1 := ⟨_, rfl⟩
  rw [← hg] at HBg ⊢
  obtain ⟨B, hB⟩ : ∃ B, B = z2 + 4 := ⟨_, rfl⟩
  have HR : Hid (RdAt B g W4 s) := Lib.hid ⟨.slice p n c, HBg.out, ⟨⟨p, n, c, rfl, hn, hl, by unfold maxLen; omega, hr.below hbw (Nat.le_refl _), hp⟩, fun h0 k hk => by
    have hk2 : k < w.heap.size := by
      obtain ⟨b, o, hp', hlt, _⟩ := hr h0
      rw [own_slice, hp'] at hk
      injection hk with hk
      have hk' : b = k := hk
      omega
    exact ⟨by omega, .inl (by omega)⟩⟩, by omega, by omega, by omega⟩
  clear HBg hbw hr hn hp
  have HZ2 := Lib.hid hz2
  have hzz : z2 < z3 ∧ z3 < z4 ∧ z4 < g ∧ g < B := by omega
  have hBw : w.heap.size ≤ B := by omega
  clear hz3 hz4 hg hB hsz hz2
  have hcall := rdTx_any B g W4 s HR.out
  go_wp2_with fail
  refine hcall.mono ?_
  intro e W5 h
  rcases h.cases with ⟨t, r, HT, v, rfl, ⟨cs, rfl, hE⟩, HR5, HS5⟩ | ⟨kk, HT, rfl, HS5⟩
  case inr =>
    go_wp2_with fail
    refine leaves_cons (f := 35) (args := #[.pointer (some ⟨z2, 0, none⟩), .pointer (some ⟨z3, 0, none⟩), .pointer (some ⟨z4, 0, none⟩)]) (by simp) (by simp [go_sem]) ?_
    refine (catch_panic z2 z3 z4 kk W5 _ _ _ (HB2.out.stays HS5.out (by omega)) rfl (HB3.out.stays HS5.out (by omega)) (HB4.out.stays HS5.out (by omega)) (by omega) (by omega) (by omega)).mono ?_
    rintro e u' w'' ⟨rfl, rfl, hb2, hb3, hb4, hst⟩
    have e3 := hb3.cell 0
    have e4 := hb4.cell 0
    simp only [List.getElem?_toArray, List.getElem?_cons_zero] at e3 e4
    refine ⟨_, results_cells3 rfl _ _ _ z2 z3 z4 _ ZTx (.slice none 0 0) (.int .i64 kk) _ rfl rfl rfl hb2 Try.underlying26 rfl (info_Tx rfl) (by rintro w' rfl; simp [go_sem, e3]) (by rintro w' rfl; simp [go_sem, e4]), ?_⟩
    have hP : txDecP s = (⟨0#32, [], [], 0#32⟩, [], kk) := by unfold txDecP; rw [HT.out]
    rw [hP]
    refine ⟨ZTx, _, rfl, ⟨.slice none 0 0, .slice none 0 0, rfl, RowO.nil _ _ _ _ _, RowO.nil _ _ _ _ _⟩, own_none _ _, ?_⟩
    have h1 : Below w.heap.size W4 W5 := HS5.out.below HW.out.size (fun k hk => by have : k = g := hk; have := HZ2.out; omega)
    have h2 : Below w.heap.size W5 w'' := hst.below (by have := HW.out.size; have := HS5.out.size; omega) (fun k hk => by have := HZ2.out; rcases hk with h | h | h <;> omega)
    exact (HW.out.trans h1).trans h2
  obtain ⟨vr, r1, r2, r3, _, rB⟩ := HR5.out
  obtain ⟨pr, nr, cr, rfl, hnr, hncr, hcmr, hrr, hpr⟩ := r2.open
  have hB25 := HB2.out.stays HS5.out (by omega)
  have hst0 : Row8 W5 pr r ∧ (r ≠ [] → ∀ a, pr = some a → a.block ≠ z2) := ⟨hrr, fun h0 a ha hab => by
    obtain ⟨b, o, hp', _, hc⟩ := hrr h0
    rw [hp'] at ha
    injection ha with ha
    subst ha
    have hab' : b = z2 := hab
    subst hab'
    obtain ⟨x, hx⟩ : ∃ x, r[0]? = some x := by
      cases r with
      | nil => exact absurd rfl h0
      | cons x _ => exact ⟨x, rfl⟩
    have h1 := hc 0 x hx
    rw [hB25.cell, List.getElem?_toArray] at h1
    exact zTx_no8 _ _ h1⟩
  have HROW := Lib.hid hst0
  have HBG := Lib.hid r1
  have HE := Lib.hid hE
  have HB25 := Lib.hid hB25
  have HB35 := Lib.hid (HB3.out.stays HS5.out (by omega))
  have HB45 := Lib.hid (HB4.out.stays HS5.out (by omega))
  have HW5 : Hid (Below w.heap.size w W5) := Lib.hid (HW.out.trans (HS5.out.below HW.out.size (fun k hk => by have : k = g := hk; have := HZ2.out; omega)))
  have HNR := Lib.hid hnr
  have HPR := Lib.hid hpr
  have hlr : nr ≤ 200000000000000 := by omega
  obtain ⟨iv, ov, hcs, hrI, hrO⟩ := hE
  obtain ⟨pi, ni, ci, rfl, _⟩ := (hrI.e (fun _ _ h => h.c) : ESl InC 36 W5 iv t.is)
  obtain ⟨po, no, co, rfl, _⟩ := (hrO.e (fun _ _ h => h.c) : ESl OutC 2 W5 ov t.os)
  have hcl : cs.length = 4 := by rw [hcs]; rfl
  have hone : cs.toArray.all (·.oneCell') = true := by rw [hcs, List.all_toArray]; rfl
  have HCL := Lib.hid hcl
  have hsz : ZTx.toArray.size = cs.toArray.size := by rw [List.size_toArray, List.size_toArray, hcl]; rfl
  have hbr := Below.refl z2 W5
  clear hst0 r1 r2 r3 hrr hpr hnr hB25 hcs hrI hrO hcl HB2 HB3 HB4 HW HR HR5 HS5 h hcall
  go_upto_region 4 with ((with_reducible refine wp_store_blk (o := ⟨none, _, _, _, _, _⟩) ?_ 26 (.tmp 2) (.tmp 11) ?_ (z2) 26 (ZTx.toArray) (cs.toArray) ?_ ?_ (HB25.out) ?_ ?_ ?_ (z2) (W5) ?_ ?_ ?_
                          · rfl
                          · rfl
                          · rfl
                          · rfl
                          · exact (by rw [List.size_toArray]; exact info_Tx HCL.out)
                          · exact (hsz)
                          · exact (hone)
                          · exact (hbr)
                          · exact (Nat.le_refl _)
                          intro W6 hB6 hb6 hg6 hs6))
  have hst6 := Stays.of_grown (S := fun k => k = z2) hg6.out (fun k h => by injection h with h; exact h.symm)
  have HR6 : Hid (Row8 W6 pr r) := Lib.hid (HROW.out.1.stays hst6 (fun h0 a ha hk => HROW.out.2 h0 a ha hk))
  have HBG6 := Lib.hid (HBG.out.stays hst6 (by omega))
  have HE6 := Lib.hid (txO_keeps B _ _ _ _ _ HE.out hst6 (Sep.low fun k hk => by have : k = z2 := hk; omega))
  have HB36 := Lib.hid (HB35.out.stays hst6 (by omega))
  have HB46 := Lib.hid (HB45.out.stays hst6 (by omega))
  have HW6 : Hid (Below w.heap.size w W6) := Lib.hid (HW5.out.trans (hst6.below HW5.out.size (fun k hk => by have : k = z2 := hk; have := HZ2.out; omega)))
  have HBs : Hid (B ≤ W6.heap.size) := Lib.hid (Nat.le_trans rB hst6.size)
  clear HROW HBG HE HB25 HB35 HB45 HW5 hst6 hb6 hg6 hs6 hbr hsz
  simp only [put_none]
  refine region_plan [qq 1, qq 2, qq 3, qq 4, qq 0, oo 5, oo 6, oo 7, oo 8] (fun W => Blk W z2 26 cs.toArray ∧ Blk W g 75 #[.slice pr nr cr]) (by kernel_rfl) (by kernel_rfl) ⟨hB6.out.fut (below_draws W6 1), HBG6.out.fut (below_draws W6 1)⟩ ?_
  refine' plan_quiet (s := 18) (A1 := _) [1, 2, 3, 4, 0] [_, _, _, _, _] _ rfl rfl rfl (fun W hW => ?hq1) _ ⟨hB6.out.fut (below_draws W6 1), HBG6.out.fut (below_draws W6 1)⟩ (fun _ => ?hr1)
  case hq1 =>
    have e1 : ∀ k, (W.drewN k).cell? ⟨g, 0, none⟩ = some (.slice pr nr cr) := fun k => by have := hW.2.cell 0; simpa using this
    try simp only [List.getElem_toArray, List.getElem_cons_zero, List.getElem_cons_succ]
    iterate 4 (go_big_quiet_step (fail))
    refine quiet_load_mid rfl 26 (.tmp 2) rfl z2 0 rfl cs _ (fun w hw => ?_) Try.underlying26 rfl (info_Tx HCL.out) ?_
    · obtain ⟨k, rfl⟩ := hw
      exact blk_range hW.1
    refine wpQuiet_nil ?_
    rfl
  case hr1 =>
  refine plan_one rfl fun k1 => ?_
  have hdr : Below W6.heap.size W6 (W6.drew.drewN k1) := below_drewN (Below.refl _ _).drew k1
  have HRa := Lib.hid (HR6.out.fut hdr)
  have HBa := Lib.hid (hB6.out.fut hdr)
  have HBGa := Lib.hid (HBG6.out.fut hdr)
  have HEa := Lib.hid (txO_keeps B _ _ _ _ _ HE6.out (Stays.of_below hdr (Nat.le_refl _) (fun _ => False)) (fun _ h => h.elim))
  have HB3a := Lib.hid (HB36.out.fut hdr)
  have HB4a := Lib.hid (HB46.out.fut hdr)
  have HWa := Lib.hid (below_fut HW6.out hdr (Nat.le_refl _))
  have HBsa := Lib.hid (Nat.le_trans HBs.out hdr.size)
  clear hB6 HR6 HBG6 HE6 HB36 HB46 HW6 HBs hdr
  generalize W6.drew.drewN k1 = Wa at *
  go_wp2_with fail
  refine (cloneW_any pr nr cr r Wa HRa.out HNR.out hlr (fun e => by have := HPR.out e; omega)).mono ?_
  rintro e Wb ⟨vb, rfl, hob, hbb⟩
  have HOb := Lib.hid (ownsRow_mono hob HBsa.out : Own8 Wb B vb r)
  obtain ⟨qb, nb, cb, rfl, _⟩ := Own8.open hob
  have hBb := HBa.out.fut hbb
  have hBGb := HBGa.out.fut hbb
  have HEb := Lib.hid (txO_keeps B _ _ _ _ _ HEa.out (Stays.of_below hbb (Nat.le_refl _) (fun _ => False)) (fun _ h => h.elim))
  have HB3b := Lib.hid (HB3a.out.fut hbb)
  have HB4b := Lib.hid (HB4a.out.fut hbb)
  have HWb := Lib.hid (below_fut HWa.out hbb (Nat.le_refl _))
  clear hob hbb HRa HBa HBGa HEa HB3a HB4a HWa HBsa
  go_wp2_with fail
  refine planQ_normal (And.intro ⟨hBb, hBGb⟩ ?_)
  refine plan_one rfl fun k2 => ?_
  have hd2 := below_draws Wb k2
  have HOc := Lib.hid (Own8.fut HOb.out hd2)
  have HBc := Lib.hid (hBb.fut hd2)
  have HBGc := Lib.hid (hBGb.fut hd2)
  have HEc := Lib.hid (txO_keeps B _ _ _ _ _ HEb.out (Stays.of_below hd2 (Nat.le_refl _) (fun _ => False)) (fun _ h => h.elim))
  have HB3c := Lib.hid (HB3b.out.fut hd2)
  have HB4c := Lib.hid (HB4b.out.fut hd2)
  have HWc := Lib.hid (below_fut HWb.out hd2 (Nat.le_refl _))
  clear HOb hBb hBGb HEb HB3b HB4b HWb hd2
  generalize Wb.drewN k2 = Wc at *
  refine wp_store_blk (o := ⟨none, _, _, _, _, _⟩) rfl 26 (.tmp 2) (.tmp 12) rfl z2 26 cs.toArray cs.toArray rfl rfl HBc.out (by rw [List.size_toArray]; exact info_Tx HCL.out) rfl hone z2 Wc (Below.refl _ _) (Nat.le_refl _) ?_
  intro Wd hBd hbd hgd hsd
  have hst := Stays.of_grown (S := fun k => k = z2) hgd.out (fun k h => by injection h with h; exact h.symm)
  have HOd := Lib.hid (Own8.sep HOc.out hst (Sep.low fun k hk => by have : k = z2 := hk; omega))
  have HEd := Lib.hid (txO_keeps B _ _ _ _ _ HEc.out hst (Sep.low fun k hk => by have : k = z2 := hk; omega))
  have hBGd := HBGc.out.stays hst (by omega)
  have HB3d := Lib.hid (HB3c.out.stays hst (by omega))
  have HB4d := Lib.hid (HB4c.out.stays hst (by omega))
  have HWd : Hid (Below w.heap.size w Wd) := Lib.hid (HWc.out.trans (hst.below HWc.out.size (fun k hk => by have : k = z2 := hk; have := HZ2.out; omega)))
  clear hst HOc HBc HBGc HEc HB3c HB4c HWc hbd hgd hsd
  have hBd' := hBd.out
  refine planQ_normal (And.intro ⟨hBd', hBGd⟩ ?_)
  refine plan_one rfl fun k3 => ?_
  have c3 : (Wd.drewN k3).cell? ⟨z3, 0, none⟩ = some (.slice none 0 0) := by have := HB3d.out.cell 0; simpa using this
  have f3 : (Wd.drewN k3).frozen? ⟨z3, 0, none⟩ = false := HB3d.out.frozen 0
  go_wp2_with fail
  have hs3 : Stays (· = z3) Wd ((Wd.drewN k3).setCell ⟨z3, 0, none⟩ (.slice qb nb cb)) := ((Stays.refl (· = z3) Wd).drewN k3).setCell (a := ⟨z3, 0, none⟩) (fun _ => rfl) _
  have HOe := Lib.hid (Own8.sep HOd.out hs3 (Sep.low fun k hk => by have : k = z3 := hk; omega))
  have HEe := Lib.hid (txO_keeps B _ _ _ _ _ HEd.out hs3 (Sep.low fun k hk => by have : k = z3 := hk; omega))
  have hBGe := hBGd.stays hs3 (by omega)
  have hBe := hBd'.stays hs3 (by omega)
  have HB3e := Lib.hid ((HB3d.out.drewN k3).set 0 (.slice qb nb cb))
  have HB4e := Lib.hid (HB4d.out.stays hs3 (by omega))
  have HWe : Hid (Below w.heap.size w ((Wd.drewN k3).setCell ⟨z3, 0, none⟩ (.slice qb nb cb))) := Lib.hid (HWd.out.trans (hs3.below HWd.out.size (fun k hk => by have : k = z3 := hk; have := HZ2.out; omega)))
  clear c3 f3 hs3 HOd HEd hBGd hBd' hBd HB3d HB4d HWd
  generalize (Wd.drewN k3).setCell ⟨z3, 0, none⟩ (.slice qb nb cb) = We at *
  refine planQ_normal (And.intro ⟨hBe, hBGe⟩ ?_)
  refine plan_one rfl fun k4 => ?_
  have c4 : (We.drewN k4).cell? ⟨z4, 0, none⟩ = some (.int .i64 0) := by have := HB4e.out.cell 0; simpa using this
  have f4 : (We.drewN k4).frozen? ⟨z4, 0, none⟩ = false := HB4e.out.frozen 0
  go_wp2_with fail
  have hs4 : Stays (· = z4) We ((We.drewN k4).setCell ⟨z4, 0, none⟩ (.int .i64 0)) := ((Stays.refl (· = z4) We).drewN k4).setCell (a := ⟨z4, 0, none⟩) (fun _ => rfl) _
  have HOf := Lib.hid (Own8.sep HOe.out hs4 (Sep.low fun k hk => by have : k = z4 := hk; omega))
  have HEf := Lib.hid (txO_keeps B _ _ _ _ _ HEe.out hs4 (Sep.low fun k hk => by have : k = z4 := hk; omega))
  have hBGf := hBGe.stays hs4 (by omega)
  have hBf := hBe.stays hs4 (by omega)
  have HB3f := Lib.hid (HB3e.out.stays hs4 (by omega))
  have HB4f := Lib.hid ((HB4e.out.drewN k4).set 0 (.int .i64 0))
  have HWf : Hid (Below w.heap.size w ((We.drewN k4).setCell ⟨z4, 0, none⟩ (.int .i64 0))) := Lib.hid (HWe.out.trans (hs4.below HWe.out.size (fun k hk => by have : k = z4 := hk; have := HZ2.out; omega)))
  clear c4 f4 hs4 HOe HEe hBGe hBe HB3e HB4e HWe
  generalize (We.drewN k4).setCell ⟨z4, 0, none⟩ (.int .i64 0) = Wf at *
  refine planQ_normal (And.intro ⟨hBf, hBGf⟩ ?_)
  refine plan_end fun k5 => NoPanic.normal ?_
  have hd5 := below_draws Wf k5
  have HOg := Lib.hid (Own8.fut HOf.out hd5)
  have HEg := Lib.hid (txO_keeps B _ _ _ _ _ HEf.out (Stays.of_below hd5 (Nat.le_refl _) (fun _ => False)) (fun _ h => h.elim))
  have hBg := hBf.fut hd5
  have HB3g := Lib.hid (HB3f.out.fut hd5)
  have HB4g := Lib.hid (HB4f.out.fut hd5)
  have HWg := Lib.hid (below_fut HWf.out hd5 (Nat.le_refl _))
  clear hd5 HOf HEf hBf hBGf HB3f HB4f HWf
  generalize Wf.drewN k5 = Wg at *
  go_wp2_with fail
  refine leaves_cons (f := 35) (args := #[.pointer (some ⟨z2, 0, none⟩), .pointer (some ⟨z3, 0, none⟩), .pointer (some ⟨z4, 0, none⟩)]) (by simp) (by simp [go_sem]) ?_
  refine (catch_idle z2 z3 z4 Wg).mono ?_
  rintro e u' w'' ⟨rfl, rfl, hw⟩
  replace hw := hw.symm
  subst hw
  have e3 := HB3g.out.cell 0
  have e4 := HB4g.out.cell 0
  simp at e3 e4
  refine ⟨_, results_cells3 rfl _ _ _ z2 z3 z4 _ cs (.slice qb nb cb) (.int .i64 0) _ rfl rfl rfl hBg Try.underlying26 rfl (info_Tx HCL.out) (by rintro w' rfl; simp [go_sem, e3]) (by rintro w' rfl; simp [go_sem, e4]), ?_⟩
  have hP : txDecP s = (t, r, 0) := by unfold txDecP; rw [HT.out]
  rw [hP]
  exact ⟨cs, _, rfl, HEg.out.mono hBw, ownsRow_mono HOg.out hBw, HWg.out⟩
end Go.Proofs.Ythglocpbdfcfnaa
