/- frame.Encode: the walk.  -/
import Derived.Lib.BufferWrite
import Derived.Test.YtndobjlodpkknaaGreatDoorWConcat
import Derived.Test.YtndobjlodpkknaaGreatDoorWCmdR
import Derived.Test.YtndobjlodpkknaaGreatDoorWFrmLow
import Derived.Test.YtndobjlodpkknaaGreatDoorWGS
import Derived.Test.YtndobjlodpkknaaGreatDoorWGA
import Derived.Test.YtndobjlodpkknaaGreatDoorWGB
namespace Go.Proofs.YtndobjlodpkknaaGreatDoor
open Go.RowKit
theorem wp_copyS {w : World} {ops : Array Oper} {rest : List Oper} {o : Oper} {a : Act} {Q : Exit → Act → World → Prop} (hgd : o.guard = none) (d s : Operand)
    (ho : o.op = .call { callee := .builtin .copy, args := #[d, s], argTypes := #[28, 9] })
    (dLen dCap : Nat) (bs : List (BitVec 8)) (g off : Nat) (hd : a.eval d = .slice (some ⟨g, off, none⟩) dLen dCap) (hs : a.eval s = .string (strB bs)) (hle : bs.length ≤ dLen)
    (cur : List Value) (t : TypeId) (hg : Blk w g t cur.toArray) (hfit : off + bs.length ≤ cur.length) (B : Nat) (w0 : World) (hb : Below B w0 w) (hB : B ≤ g)
    (h : ∀ w', Hid (Blk w' g t (splice cur off (bs.map u8)).toArray) → Below B w0 w' → w.grownBy w' (some g) → w'.heap.size = w.heap.size → wpList Tryz.prog ops Q rest (a.put o.dst (goInt (bs.length : Int))) w') :
    wpList Tryz.prog ops Q (o :: rest) a w := by
  have hbc : Lib.byteCells (strB bs).data.toList = bs.map u8 := strCells_strB bs
  have hr := Lib.run_copy_row_string (P := Tryz.prog) w 28 9 o.type 5 g off dLen dCap (strB bs) cur.toArray t Tryz.underlying28 (by kernel_rfl) hg (by rw [strB_size]; exact hle) (by rw [strB_size, List.size_toArray]; exact hfit)
  rw [strB_size, hbc] at hr
  refine wpList_plain hgd fun K hK => ?_
  unfold Oper.wp execOp
  simp only [ho, resolve, invoke, builtin, Sem.run_bind, Sem.run_pure, Result.andThen_ok, List.map_toArray, List.map_cons, List.map_nil, hd, hs, hr]
  refine hK _ _ (h _ ?_ (below_setRow hb hB _) ?_ (size_setRow _ _ _))
  · have hG := setRow_heap w g cur.toArray (splice cur off (bs.map u8)).toArray t _ hg
    refine Lib.hid ?_
    have e : (cur.toArray.toList.take off ++ bs.map u8 ++ cur.toArray.toList.drop (off + bs.length)) = splice cur off (bs.map u8) := by
      unfold splice
      rw [List.length_map, List.append_assoc]
    rw [e]
    exact hG
  · exact ⟨rfl, rfl, rfl, by simp, fun k _ hk => by
      simp [World.setRow, Array.getElem?_modify]; intro e; exact absurd (by rw [e]) hk⟩
theorem slice_info : (Tryz.prog.info? 28).map (fun i => (i.zero, i.size, i.bytes)) = some (some (.slice none 0 0), 1, 24) := by kernel_rfl
theorem own_none (w : World) (B : Nat) : Own8 w B (.slice none 0 0) [] := ⟨rfl, .inl ⟨rfl, rfl⟩⟩
def Sls (w : World) : List Value → List (List (BitVec 8)) → Prop
  | [], [] => True
  | v :: vs, b :: bs => Sl w v b ∧ Sls w vs bs
  | _, _ => False
theorem Sls.at {w : World} : ∀ (vs : List Value) (ls : List (List (BitVec 8))), Sls w vs ls → ∀ (i : Nat) (bs : List (BitVec 8)), ls[i]? = some bs → ∃ v, vs[i]? = some v ∧ Sl w v bs
  | [], [], _, _, _, h => by cases h
  | v :: vs, b :: ls, hs, 0, bs, h => by
    injection h with h
    subst h
    exact ⟨v, rfl, hs.1⟩
  | v :: vs, b :: ls, hs, i + 1, bs, h => Sls.at vs ls hs.2 i bs h
  | [], _ :: _, hs, _, _, _ => hs.elim
  | _ :: _, [], hs, _, _, _ => hs.elim
theorem rows8_lit {w : World} {g : Nat} {t : TypeId} {vs : List Value} {ls : List (List (BitVec 8))} (h : Blk w g t vs.toArray) (hs : Sls w vs ls) : Rows8 w (some ⟨g, 0, none⟩) ls := fun _ =>
  ⟨g, 0, rfl, h.lt, fun i bs hi => by
    obtain ⟨v, hv, hsl⟩ := hs.at vs ls i bs hi
    exact ⟨v, by rw [Nat.zero_add, h.cell, List.getElem?_toArray]; exact hv, hsl⟩⟩
theorem Sls.fut {w w' : World} : ∀ {vs : List Value} {ls : List (List (BitVec 8))}, Sls w vs ls → Below w.heap.size w w' → Sls w' vs ls
  | [], [], _, _ => trivial
  | _ :: _, _ :: _, h, hb => ⟨h.1.fut hb, Sls.fut h.2 hb⟩
  | [], _ :: _, h, _ => h.elim
  | _ :: _, [], h, _ => h.elim
theorem Sls.cells {w : World} : ∀ {vs : List Value} {ls : List (List (BitVec 8))}, Sls w vs ls → (∀ v ∈ vs, v.cells = #[v]) ∧ vs.length = ls.length
  | [], [], _ => ⟨fun v hv => (by cases hv), rfl⟩
  | v :: vs, b :: ls, h => by
    obtain ⟨p, n, c, rfl, _⟩ := h.1
    refine ⟨fun x hx => ?_, by simp [(Sls.cells h.2).2]⟩
    rcases List.mem_cons.1 hx with rfl | hx
    · rfl
    · exact (Sls.cells h.2).1 x hx
  | [], _ :: _, h => h.elim
  | _ :: _, [], h => h.elim
theorem flat_one : ∀ (vs : List Value), (∀ v ∈ vs, v.cells = #[v]) → vs.flatMap (fun v => v.cells.toList) = vs
  | [], _ => rfl
  | v :: vs, h => by rw [List.flatMap_cons, h v (List.mem_cons_self ..), flat_one vs fun x hx => h x (List.mem_cons_of_mem _ hx)]; rfl
theorem wp_litS {ops : Array Oper} {rest : List Oper} {o : Oper} {a : Act} {w : World} {Q : Exit → Act → World → Prop} (hgd : o.guard = none) (len : Nat) (parts : Array (Nat × Operand)) (ho : o.op = .buildSlice 95 len parts)
    (vs : List Value) (ls : List (List (BitVec 8))) (hv : parts.toList.map (fun x => (x.1, a.eval x.2)) = (vs.zipIdx 0).map fun x => (x.2, x.1)) (hs : Sls w vs ls) (hlen : vs.length = len) (hpos : 0 < len) (hsmall : len ≤ 1000)
    (h : ∀ w', Below w.heap.size w w' → Rows8 w' (some ⟨w.heap.size, 0, none⟩) ls → wpList Tryz.prog ops Q rest (a.put o.dst (.slice (some ⟨w.heap.size, 0, none⟩) len len)) w') : wpList Tryz.prog ops Q (o :: rest) a w := by
  obtain ⟨hc, _⟩ := hs.cells
  refine wp_lit hgd 95 28 len parts ho vs hv 1 24 (.slice none 0 0) Tryz.underlying95 slice_info (by omega) (fun v hv => by rw [hc v hv]; rfl) hlen hpos (by omega) ?_
  rw [flat_one vs hc]
  exact h _ (below_new w _) (rows8_lit (Blk.new w _ _) (hs.fut (below_new w _)))
theorem splice_name (cmd : List (BitVec 8)) : splice (hCells (noughts 12)) 0 (cmd.map u8) = hCells (cmd ++ noughts (12 - cmd.length)) := by
  unfold splice hCells noughts
  rw [List.map_append, List.map_replicate, List.map_replicate, List.take_zero, List.nil_append, List.drop_replicate, List.length_map, Nat.zero_add]
def frmOut (cmd pl : List (BitVec 8)) : List (BitVec 8) := low (BitVec.ofNat 64 3652501241) 4 ++ (cmd ++ noughts (12 - cmd.length)) ++ low (BitVec.ofNat 64 pl.length) 4 ++ (sha (sha pl)).take 4 ++ pl
def frmP (cmd pl : List (BitVec 8)) : List (BitVec 8) × Int := if cmdOk cmd then (if 200000 < pl.length then ([], 91) else (frmOut cmd pl, 0)) else ([], 1)
def OutPost (w : World) (x : List (BitVec 8) × Int) (e : Ending) (w' : World) : Prop := ∃ v, e = .returned (.tuple #[v, .int .i64 x.2]) ∧ Own8 w' w.heap.size v x.1 ∧ Below w.heap.size w w'
theorem OutPost.of {w w' : World} {x : List (BitVec 8) × Int} {v : Value} {bs : List (BitVec 8)} {k : Int} (h : Hid (x = (bs, k))) (ho : Own8 w' w.heap.size v bs) (hb : Below w.heap.size w w') : OutPost w x (.returned (.tuple #[v, .int .i64 k])) w' := by
  have := h.out
  subst this
  exact ⟨v, rfl, ho, hb⟩
theorem cmdOk_len {s : List (BitVec 8)} (h : cmdOk s = true) : s.length ≤ 12 := by
  unfold cmdOk at h
  simp only [Bool.and_eq_true, decide_eq_true_eq] at h
  exact h.1.2
theorem zero12 : ∀ w, (zeroValue 75).run Tryz.prog w = .ok (.agg (hCells (noughts 12)).toArray) w := zero_of2 (by kernel_rfl)
set_option maxRecDepth 100000 in
set_option maxHeartbeats 4000000 in
theorem frmEncode_any (cmd pl : List (BitVec 8)) (p : Option Addr) (n c : Nat) (w : World) (hK : Laid w) (hcl : cmd.length ≤ 140737488355328) (hr : Row8 w p pl) (hn : pl.length = n) (hnc : n ≤ c) (hcm : c ≤ 9223372036854775807) (hp : p = none → c = 0) :
    Calls Tryz.prog 21 #[.agg #[.string (strB cmd), .slice p n c]] w (OutPost w (frmP cmd pl)) := by
  have HN := Lib.hid hn
  have HK := Lib.hid hK
  have HR := Lib.hid hr
  have HP := Lib.hid hp
  have hKs := hK.size
  have HF : Hid (frmP cmd pl = if cmdOk cmd then (if 200000 < n then ([], 91) else (frmOut cmd pl, 0)) else ([], 1)) := Lib.hid (by unfold frmP; rw [hn])
  obtain ⟨S, hS⟩ : ∃ S, S = strB cmd := ⟨_, rfl⟩
  have HS := Lib.hid hS
  rw [← hS]
  have HCL := Lib.hid hcl
  clear hn hK hr hp hS hcl
  go_enter Tryz.func21, Tryz.ntmps21
  go_upto_region 1 with fail
  refine wp_abst (fun w' => Hid (Blk w' w.heap.size 37 #[.string S, .slice p n c]) ∧ Below w.heap.size w w') ⟨Lib.hid (Blk.new w _ _), below_new w _⟩ ?_
  rintro w1 ⟨hf1, hb1⟩
  have c0 := hf1.out.cell 0
  have c1 := hf1.out.cell 1
  simp only [List.getElem?_toArray, List.getElem?_cons_zero, List.getElem?_cons_succ] at c0 c1
  go_wp2_with (with_reducible refine wp_sl8n (o := ⟨some 8, _, _, _, _, _⟩) ?_ (.tmp 7) ?_ w1.heap.size cmd ?_ ?_ ?_ ?_
               · rfl
               · rfl
               · exact congrArg Value.string HS.out
               · exact HCL.out
               · exact Nat.le_refl _
               intro v2 w2 ho2 hb2
               obtain ⟨p2, c2, rfl, hc2, hr2⟩ := ho2.row)
  have hmb : cmd.length ≤ 9223372036854775807 := by have := HCL.out; omega
  have hf2 := Lib.hid (hf1.out.fut hb2)
  clear hf1
  have hbw2 := hb1.trans (hb2.mono hb1.size)
  clear hb1 hb2 ho2 c0 c1
  refine (isCommand_any p2 cmd.length c2 cmd _ hr2 rfl hmb).mono ?_
  rintro e w3 ⟨rfl, hw3⟩
  replace hw3 := hw3.symm
  subst hw3
  cases hq : cmdOk cmd with
  | false =>
    have HF1 : Hid (frmP cmd pl = ([], 1)) := Lib.hid (by rw [HF.out, hq]; rfl)
    clear hq hr2
    go_wp2_with fail
    go_ret2
    exact OutPost.of HF1 (own_none _ _) hbw2
  | true =>
    have hm12 : cmd.length ≤ 12 := cmdOk_len hq
    have c0 := hf2.out.cell 0
    have c1 := hf2.out.cell 1
    simp only [List.getElem?_toArray, List.getElem?_cons_zero, List.getElem?_cons_succ] at c0 c1
    by_cases hl : 200000 < n
    · have HF1 : Hid (frmP cmd pl = ([], 91)) := Lib.hid (by rw [HF.out, hq, if_pos rfl, if_pos hl])
      have hli : (200000 : Int) < (n : Int) := by omega
      clear hq hr2
      go_wp2_with fail
      go_ret2
      exact OutPost.of HF1 (own_none _ _) hbw2
    · have HF1 : Hid (frmP cmd pl = (frmOut cmd pl, 0)) := Lib.hid (by rw [HF.out, hq, if_pos rfl, if_neg hl])
      have hli : ¬ (200000 : Int) < (n : Int) := by omega
      have hz := zero12
      obtain ⟨Z, hZ⟩ : ∃ Z, Z = (hCells (noughts 12)).toArray := ⟨_, rfl⟩
      rw [← hZ] at hz
      have HZ := Lib.hid hZ
      clear hq hr2 hZ HF
      go_upto_region 6 with fail
      refine wp_abst (fun w' => Hid (Blk w' w.heap.size 37 #[.string S, .slice p n c]) ∧ Hid (Blk w' w2.heap.size 75 (hCells (noughts 12)).toArray) ∧ w.heap.size < w2.heap.size ∧ Below w.heap.size w w') ⟨Lib.hid (hf2.out.alloc _), Lib.hid (by rw [← HZ.out]; exact Blk.new w2 _ _), hf2.out.lt, hbw2.alloc hbw2.size _⟩ ?_
      clear hbw2 hf2 c0 c1
      obtain ⟨g4, hg4⟩ : ∃ g, g = w2.heap.size := ⟨_, rfl⟩
      rw [← hg4]
      rintro w3 ⟨hf3, hz3, hgg, hb3⟩
      have HG4 := Lib.hid hg4
      clear hg4
      have c0 : ∀ k, (w3.drewN k).cell? ⟨w.heap.size, 0, none⟩ = some (.string S) := fun k => by have := hf3.out.cell 0; simpa using this
      refine quiet_tail 3 (by kernel_rfl) (by kernel_rfl) ?_
      simp only [List.take_succ_cons, List.take_zero, List.drop_succ_cons, List.drop_zero]
      iterate 3 (go_big_quiet_step (fail))
      refine wpQuiet_nil ?_
      rintro _ ⟨nq, rfl⟩
      have hz4 := Lib.hid (hz3.out.fut (below_draws w3 nq))
      have hb4 := below_fut hb3 (below_draws w3 nq) (Nat.le_refl _)
      go_wp2_with (with_reducible refine wp_copyS (o := ⟨some 18, _, _, _, _, _⟩) ?_ (.tmp 15) (.tmp 17) ?_ 12 12 cmd g4 0 ?_ ?_ ?_ (hCells (noughts 12)) 75 ?_ ?_ w.heap.size w ?_ ?_ ?_
                   · rfl
                   · rfl
                   · rfl
                   · exact congrArg Value.string HS.out
                   · exact hm12
                   · exact hz4.out
                   · rw [hCells, List.length_map, noughts_len]; omega
                   · exact hb4
                   · omega
                   intro w4 hz5 hb5 hg5 hs5
                   have hf4 := (hf3.out.fut (below_draws w3 nq)).kept hg5 (Nat.ne_of_lt hgg)
                   have c1 := hf4.cell 1
                   simp only [List.getElem?_toArray, List.getElem?_cons_zero, List.getElem?_cons_succ] at c1)
      have hf5 := Lib.hid ((hf3.out.fut (below_draws w3 nq)).kept hg5 (Nat.ne_of_lt hgg))
      have hz6 : Hid (Blk w4 g4 75 (hCells (cmd ++ noughts (12 - cmd.length))).toArray) := Lib.hid (by rw [← splice_name]; exact hz5.out)
      clear hz5 hg5 hs5 hz4 hb4 hf3 hz3 hb3 c0
      have hK5 := HK.out.below hb5 hKs
      have hR5 := HR.out.fut hb5
      refine (shaDouble_any p n c pl w4 hK5 hR5 HN.out hnc hcm (by omega)).mono ?_
      obtain ⟨R, hRe⟩ : ∃ R, R = sha (sha pl) := ⟨_, rfl⟩
      have hRl : R.length = 32 := by rw [hRe, sha_len]
      rw [← hRe]
      have HRe := Lib.hid hRe
      have HRl := Lib.hid hRl
      clear hRe hRl hK5 hR5
      rintro e w5 ⟨rfl, hb6⟩
      have hf6 := Lib.hid (hf5.out.fut hb6)
      have hz7 := Lib.hid (hz6.out.fut hb6)
      clear hf5 hz6
      have hbw6 := below_fut hb5 hb6 (Nat.le_refl _)
      clear hb5 hb6
      have hz32 := zero32
      obtain ⟨Y, hY⟩ : ∃ Y, Y = ((noughts 32).map u8).toArray := ⟨_, rfl⟩
      rw [← hY] at hz32
      have hYl : Hid (Y.size = 32) := Lib.hid (by rw [hY]; rfl)
      clear hY
      go_upto_region 8 with (first
        | (with_reducible refine wp_store_blk (o := ⟨none, _, _, _, _, _⟩) ?_ 25 (.tmp 5) (.tmp 21) ?_ (w5.heap.size) 25 (Y) ((hCells (R)).toArray) ?_ ?_ (Blk.new w5 _ _) ?_ ?_ ?_ (w5.heap.size) (w5) ?_ ?_ ?_
           · rfl
           · rfl
           · rfl
           · rfl
           · exact (hCells_info' (HRl.out))
           · exact ((hYl.out).trans (hCells_size (HRl.out)).symm)
           · exact (hCells_one _)
           · exact (below_new w5 _)
           · exact (Nat.le_refl _)
           intro w6 hR6 hb7 hg7 hs7))
      obtain ⟨g5, hg5⟩ : ∃ g, g = w5.heap.size := ⟨_, rfl⟩
      rw [← hg5] at hR6 ⊢
      have hf8 := Lib.hid (hf6.out.fut hb7)
      have hz8 := Lib.hid (hz7.out.fut hb7)
      clear hf6 hz7
      have hbw8 := below_fut hbw6 hb7 (Nat.le_refl _)
      clear hbw6 hb7 hg7 hs7 hg5
      have hr8 := Lib.hid (HR.out.fut hbw8)
      refine region_plan [qq 1, qq 2, qq 3, qq 4, qq 5, qq 7, qq 8, qq 9, oo 0, oo 6, oo 10, oo 11, qq 12, qq 13] (fun W => Below w6.heap.size w6 W) (by kernel_rfl) (by kernel_rfl) (Below.refl _ _).drew ?_
      refine' plan_quiet (s := 34) (A1 := _) [1, 2, 3, 4, 5, 7, 8, 9] [_, _, _, _, _, _, _, _] _ rfl rfl rfl (fun W hW => ?hq1) _ (Below.refl _ _).drew (fun _ => ?hr1)
      case hq1 =>
        have c1 : ∀ k, (W.drewN k).cell? ⟨w.heap.size, 1, none⟩ = some (.slice p n c) := fun k => by have := (hf8.out.fut hW).cell 1; simpa using this
        simp only [List.getElem_toArray, List.getElem_cons_zero, List.getElem_cons_succ, put_none]
        iterate 8 (go_big_quiet_step (fail))
        refine wpQuiet_nil ?_
        rfl
      case hr1 =>
      refine plan_one rfl fun k1 => ?_
      go_wp2_with fail
      refine (frmLow_any 3652501241 _ rfl (by omega) _).mono ?_
      rintro e w7 ⟨v7, rfl, ho7, hb7⟩
      have hF7 : Below w6.heap.size w6 w7 := below_fut (below_draws w6 _) hb7 (Nat.le_refl _)
      clear hb7
      go_wp2_with fail
      refine planQ_normal (And.intro hF7 ?_)
      refine plan_one rfl fun k2 => ?_
      go_wp2_with fail
      refine (frmLow_any n _ ?_ (by omega) _).mono ?_
      · go_num
      rintro e w8 ⟨v8, rfl, ho8, hb8⟩
      have ho9 := (ho7.fut (below_draws w7 k2)).fut hb8
      have hF8 : Below w6.heap.size w6 w8 := below_fut (below_fut hF7 (below_draws w7 k2) (Nat.le_refl _)) hb8 (Nat.le_refl _)
      clear hb8 ho7 hF7
      go_wp2_with fail
      refine planQ_normal (And.intro hF8 ?_)
      refine plan_one rfl fun k3 => ?_
      generalize hw9 : w8.drewN k3 = w9
      have hb9 := below_draws w8 k3
      rw [hw9] at hb9
      have hs7 := (ho9.fut hb9).sl
      have hs8 := (ho8.fut hb9).sl
      have hF9 : Below w6.heap.size w6 w9 := below_fut hF8 hb9 (Nat.le_refl _)
      have hsn : Sl w9 (.slice (some ⟨g4, 0, none⟩) 12 12) (cmd ++ noughts (12 - cmd.length)) := ⟨_, _, _, rfl, by rw [List.length_append, noughts_len]; omega, by omega, by unfold maxLen; omega, hCells_row (hz8.out.fut hF9), fun h => by cases h⟩
      have hsr : Sl w9 (.slice (some ⟨g5, 0, none⟩) 4 32) (R.take 4) := ⟨_, _, _, rfl, by rw [List.length_take, HRl.out]; rfl, by omega, by unfold maxLen; omega, (hCells_row (hR6.out.fut hF9)).take 4, fun h => by cases h⟩
      have hsp : Sl w9 (.slice p n c) pl := ⟨_, _, _, rfl, HN.out, hnc, by unfold maxLen; omega, hr8.out.fut hF9, HP.out⟩
      have hsl : Hid (Sls w9 [v7, .slice (some ⟨g4, 0, none⟩) 12 12, v8, .slice (some ⟨g5, 0, none⟩) 4 32, .slice p n c] [low (BitVec.ofNat 64 3652501241) 4, cmd ++ noughts (12 - cmd.length), low (BitVec.ofNat 64 n) 4, R.take 4, pl]) := Lib.hid ⟨hs7, hsn, hs8, hsr, hsp, trivial⟩
      obtain ⟨ls, hls⟩ : ∃ ls, ls = [low (BitVec.ofNat 64 3652501241) 4, cmd ++ noughts (12 - cmd.length), low (BitVec.ofNat 64 n) 4, R.take 4, pl] := ⟨_, rfl⟩
      rw [← hls] at hsl
      have HLS := Lib.hid hls
      clear hs7 hs8 hsn hsr hsp hw9 hb9 ho8 ho9 hF8 hls
      refine wp_litS (o := ⟨some 32, _, _, _, _, _⟩) rfl 5 _ rfl _ ls rfl hsl.out rfl (by omega) (by omega) ?_
      intro w10 hb10 hro10
      have hF10 : Below w6.heap.size w6 w10 := below_fut hF9 hb10 (Nat.le_refl _)
      refine planQ_normal (And.intro hF10 ?_)
      simp only [put_some, List.setIfInBounds_toArray, List.set_cons_succ, List.set_cons_zero]
      have hlen : lensSum ls ≤ 140737488355000 := by
        rw [← flatten_lens, HLS.out]
        simp only [List.flatten_cons, List.flatten_nil, List.length_append, List.length_nil, low_len, noughts_len, List.length_take, HRl.out, HN.out]
        omega
      have HFL : Hid (ls.flatten = frmOut cmd pl) := Lib.hid (by
        rw [HLS.out]
        unfold frmOut
        rw [HN.out, ← HRe.out]
        simp only [List.flatten_cons, List.flatten_nil, List.append_nil, List.append_assoc])
      refine plan_one rfl fun k4 => ?_
      go_wp2_with fail
      refine (concat_any _ 5 5 ls _ (hro10.below (below_draws w10 k4) (Nat.le_refl _)) (by rw [HLS.out]; rfl) (by omega) hlen).mono ?_
      rw [HFL.out]
      rintro e w11 ⟨v11, rfl, ho11, hb11⟩
      have hF11 : Below w6.heap.size w6 w11 := below_fut (below_fut hF10 (below_draws w10 k4) (Nat.le_refl _)) hb11 (Nat.le_refl _)
      have ho12 : Own8 w11 w.heap.size v11 (frmOut cmd pl) := ho11.mono (Nat.le_trans hbw8.size (Nat.le_trans hF10.size (below_draws w10 k4).size))
      clear hb11 ho11 hro10 hlen hF10
      go_wp2_with fail
      refine planQ_normal (And.intro hF11 ?_)
      refine' plan_quiet (s := 34) (A1 := _) (r := []) [12, 13] [_, _] _ rfl rfl rfl (fun W hW => ?hq2) _ hF11 (fun _ => ?hr2)
      case hq2 =>
        simp only [List.getElem_toArray, List.getElem_cons_zero, List.getElem_cons_succ]
        iterate 2 (go_big_quiet_step (fail))
        refine wpQuiet_nil ?_
        rfl
      case hr2 =>
      refine plan_end fun k9 => NoPanic.normal ?_
      generalize hw12 : w11.drewN k9 = w12
      have ho13 : Own8 w12 w.heap.size v11 (frmOut cmd pl) := by rw [← hw12]; exact ho12.fut (below_draws w11 k9)
      have hF12 : Below w.heap.size w w12 := by rw [← hw12]; exact below_fut (hbw8.trans (hF11.mono hbw8.size)) (below_draws w11 k9) (Nat.le_refl _)
      clear ho12 hF11 hw12
      go_wp2
      go_ret2
      exact OutPost.of HF1 ho13 hF12
end Go.Proofs.YtndobjlodpkknaaGreatDoor
