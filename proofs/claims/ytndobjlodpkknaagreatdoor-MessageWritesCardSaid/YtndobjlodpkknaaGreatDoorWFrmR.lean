/- sporranref09.Encode: the walk.  -/
import Derived.Test.YtndobjlodpkknaaGreatDoorWFrm
namespace Go.Proofs.YtndobjlodpkknaaGreatDoor
open Go.RowKit
theorem Sl8.fut {w w' : World} {B : Nat} {v : Value} {bs : List (BitVec 8)} (h : Sl8 w B v bs) (hb : Below w.heap.size w w') : Sl8 w' B v bs := by
  obtain ⟨g, cap, rfl, hB, hg, h1, h2, hc, hs, hf⟩ := h
  exact ⟨g, cap, rfl, hB, Nat.lt_of_lt_of_le hg hb.size, h1, h2, fun j u hu => (hb.cell (p := ⟨g, j, none⟩) hg).trans (hc j u hu), fun j hj => by rw [hb.cell (p := ⟨g, j, none⟩) hg]; exact hs j hj, fun j hj => by rw [hb.frozen (p := ⟨g, j, none⟩) hg]; exact hf j hj⟩
theorem run_sl8e (w : World) (ty : TypeId) (B : Nat) (v : Value) (as1 : List (BitVec 8)) (h : Sl8 w B v as1) (p : Option Addr) (c : Nat) (bs : List (BitVec 8)) (hr : Row8 w p bs)
    (hlen : as1.length + bs.length ≤ 140737488355328) (hB : B ≤ w.heap.size) :
    ∃ v' w', (Builtin.append_ #[28, 28] ty #[v, .slice p bs.length c]).run Tryz.prog w = .ok v' w' ∧ Sl8 w' B v' (as1 ++ bs) ∧ Below B w w' := by
  by_cases hne : bs = []
  · subst hne
    obtain ⟨i0, hi, hz0, hz1, hz2⟩ := info_parts u8info
    refine ⟨v, w, ?_, by simpa using h, Below.refl _ _⟩
    obtain ⟨g, cap, rfl, hBg, hg, h1, h2, hc, hs, hf⟩ := h
    cases p <;> simp [Builtin.append_, run_underlying Tryz.underlying28, sizeOf, typeInfo, hi, Builtin.lenOf, Builtin.firstCells, h1, storeCells, loadCells, loadCellsFrom]
  · exact run_sl8 w ty B v as1 h p c bs hr hne hlen hB
theorem wp_sl8e {ops : Array Oper} {rest : List Oper} {o : Oper} {a : Act} {Q : Exit → Act → World → Prop} {w : World} (hgd : o.guard = none) (s x : Operand)
    (ho : o.op = .call { callee := .builtin .append, args := #[s, x], argTypes := #[28, 28] }) (B : Nat) (v : Value) (as1 : List (BitVec 8)) (hs : a.eval s = v) (hown : Sl8 w B v as1)
    (p : Option Addr) (m c : Nat) (bs : List (BitVec 8)) (hx : a.eval x = .slice p m c) (hm : bs.length = m) (hr : Row8 w p bs)
    (hlen : as1.length + bs.length ≤ 140737488355328) (hB : B ≤ w.heap.size)
    (h : ∀ v' w', Sl8 w' B v' (as1 ++ bs) → Below B w w' → wpList Tryz.prog ops Q rest (a.put o.dst v') w') : wpList Tryz.prog ops Q (o :: rest) a w := by
  subst hm
  obtain ⟨v', w', hrun, h2, h3⟩ := run_sl8e w o.type B v as1 hown p c bs hr hlen hB
  refine wpList_plain hgd fun K hK => ?_
  unfold Oper.wp execOp
  simp only [ho, resolve, invoke, builtin, Sem.run_bind, Sem.run_pure, Result.andThen_ok, List.map_toArray, List.map_cons, List.map_nil, hs, hx, hrun]
  exact hK _ _ (h v' w' h2 h3)
theorem grown_setCells {w : World} {H : Nat} : ∀ (vs : List Value) (o : Nat) (w' : World), w.grownBy w' (some H) → w.grownBy (w'.setCells H o vs) (some H)
  | [], _, _, h => h
  | v :: r, o, _, h => grown_setCells r (o + 1) _ (grown_setCell h o v)
set_option maxRecDepth 100000 in
theorem run_sl8g (w : World) (ty : TypeId) (B : Nat) (v : Value) (as1 : List (BitVec 8)) (h : Sl8 w B v as1) (p : Option Addr) (c : Nat) (bs : List (BitVec 8)) (hr : Row8 w p bs) (hne : bs ≠ [])
    (hlen : as1.length + bs.length ≤ 140737488355328) (hB : B ≤ w.heap.size) :
    ∃ v' w', (Builtin.append_ #[28, 28] ty #[v, .slice p bs.length c]).run Tryz.prog w = .ok v' w' ∧ Sl8 w' B v' (as1 ++ bs) ∧ Below B w w' ∧ w.grownBy w' v.ownBlock := by
  obtain ⟨i0, hi, hz0, hz1, hz2⟩ := info_parts u8info
  obtain ⟨b, off, rfl, _, hcell⟩ := hr hne
  have hcells : ∀ j u, (bs.map u8)[j]? = some u → w.cell? ((⟨b, off, none⟩ : Addr).add j) = some u := by
    intro j u hu
    rw [List.getElem?_map] at hu
    cases hx : bs[j]? with
    | none => rw [hx] at hu; cases hu
    | some x =>
      rw [hx] at hu
      injection hu with hu
      rw [Addr.add_lit, hcell j x hx, ← hu]
  have h' := h
  obtain ⟨g, cap, rfl, hBg, hg, h1, h2, hc, hs, hf⟩ := h
  by_cases hroom : as1.length + bs.length ≤ cap
  · have hrun := run_append_room_cells (P := Tryz.prog) w 28 ty 5 i0 Tryz.underlying28 hi g 0 as1.length cap ⟨b, off, none⟩ bs.length c (bs.map u8) (by rw [hz1]; simp) hcells (map_u8_one _) hroom
      (fun j hj => hs _ (by simp [hz1] at hj ⊢; omega)) (fun j hj => hf _ (by simp [hz1] at hj ⊢; omega))
    rw [hz1, Nat.zero_add, Nat.mul_one] at hrun
    exact ⟨_, _, hrun, h'.room bs hroom, setCells_below hBg _ _ _ (Below.refl _ _), grown_setCells _ _ _ (World.grownBy.refl w _)⟩
  · obtain ⟨v', w', hrun, ho, hgr⟩ := run_append_arg_grows (P := Tryz.prog) w 28 ty 5 i0 (.int .u8 0) 1 1 Tryz.underlying28 hi hz0 hz1 hz2 rfl (by decide) ⟨g, 0, none⟩ as1.length cap (as1.map u8) (by simp)
      (fun j u hu => by rw [Addr.add_lit, Nat.zero_add]; exact hc j u hu) ⟨b, off, none⟩ bs.length c (bs.map u8) (by simp) hcells (by omega) (by simp only [maxLen]; omega) (by omega)
    have hown : Own8 w' w.heap.size v' (as1 ++ bs) := by
      unfold Own8
      rw [List.length_append, List.map_append]
      exact ho
    exact ⟨v', w', hrun, Sl8.of (hown.mono hB) (by simp [hne]), (Below.refl B w).grown hgr hB (fun k hk => by cases hk), ⟨hgr.os, hgr.tape, hgr.output, hgr.size, fun k hk _ => hgr.block k hk (by simp)⟩⟩
theorem wp_sl8g {ops : Array Oper} {rest : List Oper} {o : Oper} {a : Act} {Q : Exit → Act → World → Prop} {w : World} (hgd : o.guard = none) (s x : Operand)
    (ho : o.op = .call { callee := .builtin .append, args := #[s, x], argTypes := #[28, 28] }) (B : Nat) (v : Value) (as1 : List (BitVec 8)) (hs : a.eval s = v) (hown : Sl8 w B v as1)
    (p : Option Addr) (m c : Nat) (bs : List (BitVec 8)) (hx : a.eval x = .slice p m c) (hm : bs.length = m) (hr : Row8 w p bs) (hne : bs ≠ [])
    (hlen : as1.length + bs.length ≤ 140737488355328) (hB : B ≤ w.heap.size)
    (h : ∀ v' w', Sl8 w' B v' (as1 ++ bs) → Below B w w' → w.grownBy w' v.ownBlock → wpList Tryz.prog ops Q rest (a.put o.dst v') w') : wpList Tryz.prog ops Q (o :: rest) a w := by
  subst hm
  obtain ⟨v', w', hrun, h2, h3, h4⟩ := run_sl8g w o.type B v as1 hown p c bs hr hne hlen hB
  refine wpList_plain hgd fun K hK => ?_
  unfold Oper.wp execOp
  simp only [ho, resolve, invoke, builtin, Sem.run_bind, Sem.run_pure, Result.andThen_ok, List.map_toArray, List.map_cons, List.map_nil, hs, hx, hrun]
  exact hK _ _ (h v' w' h2 h3 h4)
def OutRow (w : World) (x : List (BitVec 8) × Int) (e : Ending) (w' : World) : Prop := ∃ p n c, e = .returned (.tuple #[.slice p n c, .int .i64 x.2]) ∧ Hid (x.1.length = n) ∧ n ≤ c ∧ c ≤ 9223372036854775807 ∧ Row8 w' p x.1 ∧ Below w.heap.size w w'
theorem OutRow.nil {w w' : World} {x : List (BitVec 8) × Int} {k : Int} (h : Hid (x = ([], k))) (hb : Below w.heap.size w w') : OutRow w x (.returned (.tuple #[.slice none 0 0, .int .i64 k])) w' := by
  have := h.out
  subst this
  exact ⟨none, 0, 0, rfl, Lib.hid rfl, by omega, by omega, Row8.nil _ _, hb⟩
theorem OutRow.of {w w' : World} {x : List (BitVec 8) × Int} {v : Value} {B : Nat} {bs : List (BitVec 8)} {k : Int} (h : Hid (x = (bs, k))) (ho : Sl8 w' B v bs) (hb : Below w.heap.size w w') : OutRow w x (.returned (.tuple #[v, .int .i64 k])) w' := by
  have := h.out
  subst this
  obtain ⟨p, c, rfl, h1, h2⟩ := ho.row
  obtain ⟨g, cap, e, _, _, _, hm, _⟩ := ho
  injection e with _ _ e
  subst e
  exact ⟨p, _, c, rfl, Lib.hid rfl, h1, hm, h2, hb⟩
theorem low_magic : low (BitVec.ofNat 64 3652501241) 4 ≠ [] := by intro e; have := congrArg List.length e; rw [low_len] at this; cases this
theorem low4_ne (n : BitVec 64) : low n 4 ≠ [] := by intro e; have := congrArg List.length e; rw [low_len] at this; cases this
set_option maxRecDepth 100000 in
set_option maxHeartbeats 4000000 in
theorem refFrm_any (cmd pl : List (BitVec 8)) (p : Option Addr) (n c : Nat) (w : World) (hcl : cmd.length ≤ 140737488355328) (hr : Row8 w p pl) (hn : pl.length = n) :
    Calls Tryz.prog 22 #[.agg #[.string (strB cmd), .slice p n c]] w (OutRow w (frmP cmd pl)) := by
  have HN := Lib.hid hn
  have HR := Lib.hid hr
  have HF : Hid (frmP cmd pl = if cmdOk cmd then (if 200000 < n then ([], 91) else (frmOut cmd pl, 0)) else ([], 1)) := Lib.hid (by unfold frmP; rw [hn])
  have hcl2 : cmd.length ≤ 9223372036854775807 := by omega
  clear hn hr
  have hci := fun W => refCommand_any cmd W hcl2
  obtain ⟨S, hS⟩ : ∃ S, S = strB cmd := ⟨_, rfl⟩
  rw [← hS] at hci ⊢
  have HS := Lib.hid hS
  have HCL := Lib.hid hcl
  clear hcl hS hcl2
  go_enter Tryz.func22, Tryz.ntmps22
  go_upto_region 1 with fail
  refine wp_abst (fun w' => Hid (Blk w' w.heap.size 37 #[.string S, .slice p n c]) ∧ Below w.heap.size w w') ⟨Lib.hid (Blk.new w _ _), below_new w _⟩ ?_
  rintro w1 ⟨hf1, hb1⟩
  have c0 := hf1.out.cell 0
  have c1 := hf1.out.cell 1
  simp only [List.getElem?_toArray, List.getElem?_cons_zero, List.getElem?_cons_succ] at c0 c1
  go_wp2_with fail
  refine (hci w1).mono ?_
  rintro e w2 ⟨rfl, hw2⟩
  replace hw2 := hw2.symm
  subst hw2
  cases hq : cmdOk cmd with
  | false =>
    have HF1 : Hid (frmP cmd pl = ([], 1)) := Lib.hid (by rw [HF.out, hq]; rfl)
    clear hq
    go_wp2_with fail
    go_ret2
    exact OutRow.nil HF1 hb1
  | true =>
    have hm12 : cmd.length ≤ 12 := cmdOk_len hq
    by_cases hl : 200000 < n
    · have HF1 : Hid (frmP cmd pl = ([], 91)) := Lib.hid (by rw [HF.out, hq, if_pos rfl, if_pos hl])
      have hli : (200000 : Int) < (n : Int) := by omega
      clear hq
      go_wp2_with fail
      go_ret2
      exact OutRow.nil HF1 hb1
    · have HF1 : Hid (frmP cmd pl = (frmOut cmd pl, 0)) := Lib.hid (by rw [HF.out, hq, if_pos rfl, if_neg hl])
      have hli : ¬ (200000 : Int) < (n : Int) := by omega
      clear hq HF
      go_upto_region 5 with fail
      clear c0 c1
      refine region_plan [qq 1, qq 2, oo 0, oo 3, qq 4] (fun W => Below w1.heap.size w1 W) (by kernel_rfl) (by kernel_rfl) (Below.refl _ _).drew ?_
      refine' plan_quiet (s := 40) (A1 := _) [1, 2] [_, _] _ rfl rfl rfl (fun W hW => ?hq1) _ (Below.refl _ _).drew (fun _ => ?hr1)
      case hq1 =>
        have c0 : ∀ k, (W.drewN k).cell? ⟨w.heap.size, 0, none⟩ = some (.string S) := fun k => by have := (hf1.out.fut hW).cell 0; simpa using this
        simp only [List.getElem_toArray, List.getElem_cons_zero, List.getElem_cons_succ]
        iterate 2 (go_big_quiet_step (fail))
        refine wpQuiet_nil ?_
        rfl
      case hr1 =>
      refine plan_one rfl fun k1 => ?_
      go_wp2_with fail
      have hlm := low_any (BitVec.ofNat 64 3652501241) 4 (by omega) (w1.drewN (1 + k1))
      rw [show iv64 (BitVec.ofNat 64 3652501241) = 3652501241 by decide] at hlm
      refine hlm.mono ?_
      rintro e w2 ⟨v2, rfl, ho2, hb2⟩
      have hF2 : Below w1.heap.size w1 w2 := below_fut (below_draws w1 _) hb2 (Nat.le_refl _)
      have hs2 := (Sl8.of ho2 low_magic)
      clear hb2 hlm ho2
      go_wp2_with fail
      refine planQ_normal (And.intro hF2 ?_)
      refine plan_one rfl fun k2 => ?_
      have hs2' := hs2.fut (below_draws w2 k2)
      have hF2' := below_fut hF2 (below_draws w2 k2) (Nat.le_refl _)
      refine wp_sl8s (o := ⟨some 17, _, _, _, _, _⟩) rfl (.tmp 14) (.tmp 16) rfl w1.heap.size v2 _ rfl hs2' cmd (congrArg Value.string HS.out) (by rw [low_len]; omega) hF2'.size ?_
      intro v3 w3 hs3 hb3
      have hF3 : Below w1.heap.size w1 w3 := hF2'.trans hb3
      clear hb3 hs2' hF2' hs2 hF2
      refine planQ_normal (And.intro hF3 ?_)
      simp only [put_some, List.setIfInBounds_toArray, List.set_cons_succ, List.set_cons_zero]
      refine' plan_quiet (s := 40) (A1 := _) (r := []) [4] [_] _ rfl rfl rfl (fun W hW => ?hq2) _ hF3 (fun _ => ?hr2)
      case hq2 =>
        simp only [List.getElem_toArray, List.getElem_cons_zero, List.getElem_cons_succ]
        iterate 1 (go_big_quiet_step (fail))
        refine wpQuiet_nil ?_
        rfl
      case hr2 =>
      refine plan_end fun k9 => NoPanic.normal ?_
      generalize hw4 : w3.drewN k9 = w4
      have hs4 : Sl8 w4 w1.heap.size v3 (low (BitVec.ofNat 64 3652501241) 4 ++ cmd) := by rw [← hw4]; exact hs3.fut (below_draws w3 k9)
      have hF4 : Below w1.heap.size w1 w4 := by rw [← hw4]; exact below_fut hF3 (below_draws w3 k9) (Nat.le_refl _)
      clear hs3 hF3 hw4
      obtain ⟨P, hP⟩ : ∃ P, P = low (BitVec.ofNat 64 3652501241) 4 ++ cmd := ⟨_, rfl⟩
      rw [← hP] at hs4
      have HPL : Hid (P.length = 4 + cmd.length) := Lib.hid (by rw [hP, List.length_append, low_len])
      have HP := Lib.hid hP
      clear hP
      go_wp2_with fail
      go_loopw [4] (fun v wr => ∃ k : Nat, k + cmd.length ≤ 12 ∧ Sl8 wr w1.heap.size v (P ++ noughts k) ∧ Below w1.heap.size w1 wr) (fun v _ => 16 - lenS v)
      case atStart => exact ⟨0, by omega, by simpa [noughts] using hs4, hF4⟩
      case round =>
        obtain ⟨k, hk, hs5, hF5⟩ := hrel
        clear hs4 hF4
        have hl5 : (P ++ noughts k).length = 4 + cmd.length + k := by rw [List.length_append, HPL.out]; simp [noughts]
        have hs5' := hs5
        obtain ⟨g5, cap5, e5, _, hlt, hcap5, hcm5, _⟩ := hs5'
        rw [hl5] at e5 hcap5
        subst e5
        by_cases hkz : k + cmd.length < 12
        · have hli2 : ((4 + cmd.length + k : Nat) : Int) < 16 := by omega
          have hb6 : Below wr.heap.size wr (wr.alloc (.cells #[.int .u8 0] 5)) := below_new _ _
          have hrow6 : Row8 (wr.alloc (.cells #[.int .u8 0] 5)) (some ⟨wr.heap.size, 0, none⟩) [0#8] := new_oneS wr 0#8
          have hs6 := hs5.fut hb6
          have hF6 := below_fut hF5 hb6 (Nat.le_refl _)
          have hsz6 := hF6.size
          clear hs5 hF5
          go_wp2_with (with_reducible refine wp_sl8 (o := ⟨some 23, _, _, _, _, _⟩) ?_ (.tmp 21) (.tmp 22) ?_ w1.heap.size _ (P ++ noughts k) ?_ hs6 (some ⟨wr.heap.size, 0, none⟩) 1 1 [0#8] ?_ rfl hrow6 ?_ ?_ hsz6 ?_
                       · rfl
                       · rfl
                       · rfl
                       · rfl
                       · simp
                       · rw [hl5]; simp only [List.length_cons, List.length_nil]; omega
                       intro v7 w7 hs7 hb7)
          have hF7 := hF6.trans hb7
          have hs8 : Sl8 w7 w1.heap.size v7 (P ++ noughts (k + 1)) := by rw [noughts_succ, ← List.append_assoc]; exact hs7
          have hl8 : (P ++ noughts (k + 1)).length = 4 + cmd.length + (k + 1) := by rw [List.length_append, HPL.out]; simp [noughts]
          have hs8' := hs8
          obtain ⟨g8, cap8, e8, _⟩ := hs8'
          rw [hl8] at e8
          subst e8
          go_roundw
          case rel => exact ⟨k + 1, by omega, hs8, hF7⟩
          case measure => simp only [lenS]; omega
        · have hli2 : ¬ ((4 + cmd.length + k : Nat) : Int) < 16 := by omega
          have hke : k = 12 - cmd.length := by omega
          obtain ⟨M, hM⟩ : ∃ M, M = P ++ noughts k := ⟨_, rfl⟩
          rw [← hM] at hs5 hl5
          have HM : Hid (M = low (BitVec.ofNat 64 3652501241) 4 ++ (cmd ++ noughts (12 - cmd.length))) := Lib.hid (by rw [hM, HP.out, hke, List.append_assoc])
          have HML : Hid (M.length = 16) := Lib.hid (by rw [hl5]; omega)
          clear hM hkz hl5 HPL HP
          have hfr := Lib.hid (hf1.out.fut hF5)
          have c1 := hfr.out.cell 1
          simp only [List.getElem?_toArray, List.getElem?_cons_zero, List.getElem?_cons_succ] at c1
          have hle : w.heap.size ≤ w1.heap.size := hb1.size
          have hbwr : Below w.heap.size w wr := hb1.trans (hF5.mono hle)
          go_wp2_with fail
          refine (refDouble_any p n c pl wr (HR.out.fut hbwr) HN.out (by omega)).mono ?_
          obtain ⟨R, hRe⟩ : ∃ R, R = sha (sha pl) := ⟨_, rfl⟩
          have hRl : R.length = 32 := by rw [hRe, sha_len]
          rw [← hRe]
          have HRe := Lib.hid hRe
          have HRl := Lib.hid hRl
          clear hRe hRl c1
          rintro e w5 ⟨rfl, hb5⟩
          have hz32 := zero32
          obtain ⟨Y, hY⟩ : ∃ Y, Y = ((noughts 32).map u8).toArray := ⟨_, rfl⟩
          rw [← hY] at hz32
          have hYl : Hid (Y.size = 32) := Lib.hid (by rw [hY]; rfl)
          clear hY
          go_upto_region 9 with (first
            | (with_reducible refine wp_store_blk (o := ⟨none, _, _, _, _, _⟩) ?_ 25 (.tmp 5) (.tmp 26) ?_ (w5.heap.size) 25 (Y) ((hCells (R)).toArray) ?_ ?_ (Blk.new w5 _ _) ?_ ?_ ?_ (w5.heap.size) (w5) ?_ ?_ ?_
               · rfl
               · rfl
               · rfl
               · rfl
               · exact (hCells_info' (HRl.out))
               · exact ((hYl.out).trans (hCells_size (HRl.out)).symm)
               · exact (hCells_one _)
               · exact (below_new w5 _)
               · exact (Nat.le_refl _)
               intro w6 hR6 hb7 hg7 hs7))
          obtain ⟨g5', hg5⟩ : ∃ g, g = w5.heap.size := ⟨_, rfl⟩
          rw [← hg5] at hR6 ⊢
          have hb57 : Below wr.heap.size wr w6 := below_fut hb5 hb7 (Nat.le_refl _)
          have hfr6 := Lib.hid (hfr.out.fut hb57)
          clear hfr
          have hs6 := hs5.fut hb57
          have hF6 := below_fut hF5 hb57 (Nat.le_refl _)
          have hbw6 := below_fut hbwr hb57 (Nat.le_refl _)
          have hlt5 : g5 < g5' := by rw [hg5]; exact Nat.lt_of_lt_of_le hlt hb5.size
          clear hb57 hb5 hb7 hs5 hF5 hbwr hg5 hs7 hg7
          rw [hke] at hs6
          simp only [put_none]
          refine region_plan [qq 0, qq 1, qq 2, qq 3, qq 4, qq 7, oo 5, oo 6, oo 8, qq 9] (fun W => Below w1.heap.size w1 W) (by kernel_rfl) (by kernel_rfl) hF6.drew ?_
          refine' plan_quiet (s := 40) (A1 := _) [0, 1, 2, 3, 4, 7] [_, _, _, _, _, _] _ rfl rfl rfl (fun W hW => ?hq1) _ hF6.drew (fun _ => ?hr1)
          case hq1 =>
            have c1 : ∀ k, (W.drewN k).cell? ⟨w.heap.size, 1, none⟩ = some (.slice p n c) := fun k => by have := (hf1.out.fut hW).cell 1; simpa using this
            simp only [List.getElem_toArray, List.getElem_cons_zero, List.getElem_cons_succ]
            iterate 6 (go_big_quiet_step (fail))
            refine wpQuiet_nil ?_
            rfl
          case hr1 =>
          refine plan_one rfl fun k1 => ?_
          go_wp2_with fail
          have hlm := low_any (BitVec.ofNat 64 n) 4 (by omega) (w6.drewN (1 + k1))
          rw [show iv64 (BitVec.ofNat 64 n) = (n : Int) by simp [iv64]; omega] at hlm
          refine hlm.mono ?_
          rintro e w7 ⟨v7, rfl, ho7, hb7⟩
          have hb67 : Below w6.heap.size w6 w7 := below_fut (below_draws w6 (1 + k1)) hb7 (Nat.le_refl _)
          have hF7 : Below w1.heap.size w1 w7 := below_fut hF6 hb67 (Nat.le_refl _)
          have hs7 := hs6.fut hb67
          have hR7 := Lib.hid (hR6.out.fut hb67)
          clear hb67 hb7 hlm hs6 hF6 hR6
          go_wp2_with fail
          refine planQ_normal (And.intro hF7 ?_)
          refine plan_one rfl fun k2 => ?_
          have hs7' := hs7.fut (below_draws w7 k2)
          have hF7' := below_fut hF7 (below_draws w7 k2) (Nat.le_refl _)
          have hR7' := Lib.hid (hR7.out.fut (below_draws w7 k2))
          obtain ⟨q7, d7, rfl, _, _, hr7⟩ := (ho7.fut (below_draws w7 k2)).row
          refine wp_sl8g (o := ⟨some 33, _, _, _, _, _⟩) rfl (.tmp 27) (.tmp 32) rfl w1.heap.size _ M rfl hs7' q7 _ d7 (low (BitVec.ofNat 64 n) 4) rfl rfl hr7 (low4_ne _) (by rw [HML.out, low_len]; omega) hF7'.size ?_
          intro v8 w8 hs8 hb8 hg8
          have hF8 : Below w1.heap.size w1 w8 := hF7'.trans hb8
          have hR8 := Lib.hid (hR7'.out.kept hg8 (Nat.ne_of_gt hlt5))
          clear hb8 hg8 hs7 hs7' hF7 hF7' hR7 hR7' hr7 ho7
          refine planQ_normal (And.intro hF8 ?_)
          simp only [put_some, List.setIfInBounds_toArray, List.set_cons_succ, List.set_cons_zero]
          refine plan_one rfl fun k3 => ?_
          have hF8' := below_fut hF8 (below_draws w8 k3) (Nat.le_refl _)
          have hr8 := (hCells_row (hR8.out.fut (below_draws w8 k3))).take 4
          have hl8 : (M ++ low (BitVec.ofNat 64 n) 4).length = 20 := by rw [List.length_append, HML.out, low_len]
          have hRt : (R.take 4).length = 4 := by rw [List.length_take, HRl.out]; rfl
          refine wp_sl8 (o := ⟨some 35, _, _, _, _, _⟩) rfl (.tmp 33) (.tmp 34) rfl w1.heap.size v8 _ rfl (hs8.fut (below_draws w8 k3)) _ 4 32 (R.take 4) rfl hRt hr8 (by intro e; rw [e] at hRt; cases hRt) (by rw [hl8, hRt]; omega) hF8'.size ?_
          intro v9 w9 hs9 hb9
          have hF9 : Below w1.heap.size w1 w9 := hF8'.trans hb9
          clear hb9 hs8 hF8 hF8' hR8 hr8
          refine planQ_normal (And.intro hF9 ?_)
          simp only [put_some, List.setIfInBounds_toArray, List.set_cons_succ, List.set_cons_zero]
          refine' plan_quiet (s := 40) (A1 := _) (r := []) [9] [_] _ rfl rfl rfl (fun W hW => ?hq2) _ hF9 (fun _ => ?hr2)
          case hq2 =>
            simp only [List.getElem_toArray, List.getElem_cons_zero, List.getElem_cons_succ]
            iterate 1 (go_big_quiet_step (fail))
            refine wpQuiet_nil ?_
            rfl
          case hr2 =>
          refine plan_end fun k9 => NoPanic.normal ?_
          generalize hw10 : w9.drewN k9 = w10
          have hs10 := hs9.fut (below_draws w9 k9)
          have hF10 := below_fut hF9 (below_draws w9 k9) (Nat.le_refl _)
          rw [hw10] at hs10 hF10
          clear hs9 hF9 hw10
          obtain ⟨N, hN⟩ : ∃ N, N = M ++ low (BitVec.ofNat 64 n) 4 ++ R.take 4 := ⟨_, rfl⟩
          rw [← hN] at hs10
          have HNl : Hid (N.length = 24) := Lib.hid (by rw [hN, List.length_append, hl8, hRt])
          have HFO : Hid (N ++ pl = frmOut cmd pl) := Lib.hid (by rw [hN, HM.out, HRe.out]; unfold frmOut; rw [HN.out])
          have hbw10 : Below w.heap.size w w10 := hb1.trans (hF10.mono hle)
          have hr10 := HR.out.fut hbw10
          have c1 := (hf1.out.fut hF10).cell 1
          simp only [List.getElem?_toArray, List.getElem?_cons_zero, List.getElem?_cons_succ] at c1
          have hsz10 := hF10.size
          clear hN hl8 hRt HM HRe
          go_wp2_with (with_reducible refine wp_sl8e (o := ⟨some 39, _, _, _, _, _⟩) ?_ (.tmp 36) (.tmp 38) ?_ w1.heap.size _ N ?_ hs10 p n c pl ?_ HN.out hr10 ?_ hsz10 ?_
                       · rfl
                       · rfl
                       · rfl
                       · rfl
                       · rw [HNl.out, HN.out]; omega
                       intro v11 w11 hs11 hb11)
          rw [HFO.out] at hs11
          go_ret2
          exact OutRow.of HF1 hs11 (hbw10.trans (hb11.mono hle))
end Go.Proofs.YtndobjlodpkknaaGreatDoor
