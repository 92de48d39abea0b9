/- sporranref10.reader: list, headers: the walks.  -/
import Derived.Test.YtndobjlodpkknaaAMsgQ
import Derived.Test.YtndobjlodpkknaaAMsgG
import Derived.Test.YtndobjlodpkknaaAGH
namespace Go.Proofs.Ytndobjlodpkknaa
open Go Go.RowKit
set_option linter.unusedVariables false
theorem AheadB.call {T D B g : Nat} {w w' : World} {pa : Option Addr} {a : Bs} {er : Int} {s : Bs} (h : AheadB w pa a) (hr : MRd T D B g w er s) (hT : T ≠ 5) (hs : Stays (· = g) w w') : AheadB w' pa a := by
  obtain ⟨v, hg, _⟩ := hr
  exact h.stays hs fun k hk => ⟨T, _, (show k = g from hk) ▸ hg, hT⟩
theorem AheadB.apart {T D B g : Nat} {w : World} {pa : Option Addr} {a : Bs} {er : Int} {s : Bs} (h : AheadB w pa a) (hr : MRd T D B g w er s) (hT : T ≠ 5) : a ≠ [] → ∀ x, pa = some x → x.block ≠ g := fun h0 x hx e => by
  obtain ⟨v, hg, _⟩ := hr
  obtain ⟨cs, h1⟩ := h.2 h0 x hx
  rw [e] at h1
  exact hT (hg.inj h1).1
def LoopC {β : Type} (er1 : Int) (R : Except Int (β × Bs)) (er : Int) (X : Except Int (β × Bs)) : Prop := if er1 = 0 then CntG R er X else er = er1
theorem LoopC.start {α : Type} (er1 : Int) (p : Pz α) (n : Nat) (s : Bs) : LoopC er1 (manyZ p n s) er1 (contM [] p n s) := by
  unfold LoopC
  split
  · rename_i h; rw [h]; exact CntG.start p n s
  · rfl
theorem LoopC.step {α : Type} {er1 : Int} {R : Except Int (List α × Bs)} {xs : List α} {p : Pz α} {m : Nat} {s r : Bs} {a : α} {er' : Int} (h : LoopC er1 R 0 (contM xs p (m + 1) s)) (h2 : Step p 0 s a er' r) : LoopC er1 R er' (contM (xs ++ [a]) p m r) := by
  unfold LoopC at h ⊢
  by_cases h1 : er1 = 0
  · rw [if_pos h1] at h ⊢; exact h.step h2
  · rw [if_neg h1] at h; exact absurd h.symm h1
theorem LoopC.done {α : Type} {p : Pz α} {n : Nat} {s0 s : Bs} {xs : List α} {er1 er : Int} {m : Nat} (h : LoopC er1 (manyZ p n s0) er (contM xs p m s)) (hm : m = 0 ∨ er ≠ 0) : Step (manyZ p n) er1 s0 xs er s := by
  unfold LoopC at h
  by_cases h1 : er1 = 0
  · rw [if_pos h1] at h; rw [h1]; exact h.done hm
  · rw [if_neg h1] at h
    unfold Step
    rw [if_neg h1]
    exact h
theorem row_own {α : Type} {E : World → α → List Value → Prop} {T N B : Nat} {w : World} {v : Value} {xs : List α} (h : RowO E T N B w v xs) (k : Nat) (hk : v.ownBlock = some k) : B ≤ k ∧ ∃ cs, Blk w k T cs := by
  obtain ⟨css, _, hown, _⟩ := h
  rcases hown.2 with ⟨e, _⟩ | ⟨q, cap, cur, e, hq, hh, _⟩
  · rw [e] at hk; cases hk
  · rw [e] at hk
    injection hk with hk
    have hk' : q = k := hk
    subst hk'
    exact ⟨hq, cur, hh⟩
set_option maxRecDepth 100000 in
set_option maxHeartbeats 8000000 in
theorem qList_any (D B g most : Nat) (hD : D ≤ B) (hm : most ≤ 2000) (w : World) (er : Int) (s : Bs) (pa : Option Addr) (na ca : Nat) (a : Bs) (h : MRd 70 D B g w er s) (hA : AheadB w pa a) (han : a.length = na) (ha4 : a.length ≤ 100) :
    Calls Try.prog 57 #[.pointer (some ⟨g, 0, none⟩), .int .u64 (most : Int), .slice pa na ca] w (MkP 70 D B g w (hshZ most a) er s fun w' xs v => RowO HashE 29 32 B w' v xs) := by
  have hcall := qCount_any D B g most hm w er s h
  have HA : Hid (∀ w', Stays (· = g) w w' → AheadB w' pa a) := Lib.hid (fun w' hs => hA.call h (by decide) hs)
  have HBW := Lib.hid (show D ≤ w.heap.size by have := h.gB; omega)
  have HBB := Lib.hid h.gB
  have HAN := Lib.hid (And.intro han ha4)
  clear h hA han ha4
  go_enter Try.func57, Try.ntmps57
  go_wp2_with fail
  refine hcall.mono ?_
  rintro e w1 ⟨v, n, er1, r1, rfl, ⟨rfl, hn⟩, HR1, HS1, HT1⟩
  have HA1 := Lib.hid (HA.out _ HS1.out)
  have HI0 : Hid (RowO HashE 29 32 w.heap.size w1 (.slice none 0 0) []) := Lib.hid (RowO.nil _ _ _ _ _)
  clear hcall HA
  go_wp2_with fail
  go_loopw [7, 8] (fun l i wr => ∃ (j : Nat) (xs : List Bs) (er : Int) (sr : Bs) (pl : Option Addr) (nl cl : Nat), j ≤ n ∧ i = .int .i64 j ∧ l = .slice pl nl cl ∧ Hid (xs.length + j = n) ∧ Hid (RowO HashE 29 32 w.heap.size wr (.slice pl nl cl) xs) ∧ Hid (MRd 70 D B g wr er sr) ∧ Hid (AheadB wr pa a) ∧ Hid (Stays (· = g) w wr) ∧ Hid (LoopC er1 (manyZ ((theseZ a).bind fun _ => takeZ 32) n r1) er (contM xs ((theseZ a).bind fun _ => takeZ 32) j sr))) (fun _ i _ => (intOf i).toNat)
  case atStart => exact ⟨n, [], er1, r1, _, _, _, Nat.le_refl _, rfl, rfl, Lib.hid (by simp), HI0, HR1, HA1, HS1, Lib.hid (LoopC.start _ _ _ _)⟩
  case round =>
    clear HI0 HR1 HA1 HS1
    obtain ⟨j, xs, er, sr, pl, nl, cl, hj, rfl, rfl, HXJ, HROWk, HRk, HAk, HSk, HCk⟩ := hrel
    obtain ⟨vr, k1, k2, k3, k4, k5⟩ := HRk.out
    obtain ⟨e0, e1, g0, g1⟩ := cell2 k1
    clear k1 k2 k3
    by_cases hj0 : j = 0
    · subst hj0
      have hgt : ¬ (0 : Int) < ((0 : Nat) : Int) := by omega
      go_wp2_with fail
      go_ret
      exact ⟨_, xs, er, sr, rfl, HROWk.out.mono (fun _ _ h => h) HBB.out.2, HRk, HSk, Lib.hid (HT1.out.bind (f := manyZ _) (LoopC.done HCk.out (.inl rfl)))⟩
    have hgt : (0 : Int) < (j : Int) := by omega
    by_cases he : er = 0
    case neg =>
      have hb1 : (er == 0) = false := by rw [beq_eq_false_iff_ne]; exact he
      have HE := Lib.hid he
      clear he
      go_wp2_with fail
      go_ret
      exact ⟨_, xs, er, sr, rfl, HROWk.out.mono (fun _ _ h => h) HBB.out.2, HRk, HSk, Lib.hid (HT1.out.bind (f := manyZ _) (LoopC.done HCk.out (.inr HE.out)))⟩
    subst he
    obtain ⟨j', rfl⟩ : ∃ j', j = j' + 1 := ⟨j - 1, by omega⟩
    have hge1 : (1 : Int) ≤ ((j' + 1 : Nat) : Int) := by omega
    have hmust := qMust_any D B g wr 0 sr pa na ca a HRk.out HAN.out.1 (by have := HAN.out; omega) HAk.out.1 (HAk.out.apart HRk.out (by decide))
    go_wp2_with fail
    refine hmust.mono ?_
    rintro e w4 ⟨rfl, er4, r4, HR4, HS4, HT4⟩
    have HA4 := Lib.hid (HAk.out.call HRk.out (by decide) HS4.out)
    have HROW4 := Lib.hid (HROWk.out.sep (hashE_keeps _) HS4.out (Sep.low fun k hk => by have : k = g := hk; have := HBB.out; omega))
    have HS04 := Lib.hid (HSk.out.trans HS4.out fun _ _ h => h)
    clear hmust HRk HAk HROWk HSk HS4 e0 e1 g0 g1
    go_wp2_with fail
    refine (qHash_any D B g hD w4 er4 r4 HR4.out).mono ?_
    rintro e w5 ⟨v5, V, er5, r5, rfl, ⟨rfl, hv⟩, HRk, HS5, HT5⟩
    have HVL := Lib.hid hv
    have HAk := Lib.hid (HA4.out.call HR4.out (by decide) HS5.out)
    have HROWk := Lib.hid (HROW4.out.sep (hashE_keeps _) HS5.out (Sep.low fun k hk => by have : k = g := hk; have := HBB.out; omega))
    have HSk := Lib.hid (HS04.out.trans HS5.out fun _ _ h => h)
    have HTT := Lib.hid (HT4.out.bind (f := fun _ => takeZ 32) HT5.out)
    clear hv HR4 HA4 HROW4 HS04 HS5 HT4 HT5
    obtain ⟨css, hcl, hown, hcs⟩ := HROWk.out
    have HOWN := Lib.hid hown
    have HCSS := Lib.hid hcs
    have HCL := Lib.hid hcl
    have hxl : xs.length ≤ 2000 := by have := HXJ.out; omega
    have hBw8 : w.heap.size ≤ w5.heap.size := HSk.out.size
    have HHS : Hid ((hCells V).length = 32) := Lib.hid (by simp [hCells, HVL.out])
    clear hown hcs hcl
    go_wp2_with (first
      | (with_reducible refine wp_lit (o := ⟨some 29, _, _, _, _, _⟩) ?_ 30 29 1 #[(0, .tmp 28)] ?_ [.agg (hCells V).toArray] ?_ 32 32 _ Try.underlying30 hash_infoM ?_ ?_ ?_ ?_ ?_ ?_
         · rfl
         · rfl
         · rfl
         · omega
         · exact (fun v hv => by rw [List.mem_singleton.1 hv]; exact hCells_size HVL.out)
         · rfl
         · omega
         · omega
         simp only [List.flatMap_cons, List.flatMap_nil, List.append_nil, Value.cells])
      | (with_reducible refine wp_rowapp (o := ⟨some 30, _, _, _, _, _⟩) ?_ (.tmp 26) (.tmp 29) 30 29 ?_ _ 32 32 Try.underlying30 hash_infoM ?_ ?_ ?_ w.heap.size _ xs.length css.flatten ?_ (World.ownsRow.alloc HOWN.out _) w5.heap.size 1 1 (hCells V) ?_ (Blk.new w5 _ _) ?_ ?_ ?_ ?_ ?_
         · rfl
         · rfl
         · rfl
         · omega
         · omega
         · rfl
         · rfl
         · exact HHS.out
         · exact one_all (hCells_one V)
         · omega
         · rw [World.size_alloc]; omega
         intro vb wb hlb hgb hob))
    have hnew := below_new w5 (.cells (hCells V).toArray 29)
    have hst9 : Stays (fun _ => False) w5 (w5.alloc (.cells (hCells V).toArray 29)) := Stays.of_below hnew (Nat.le_refl _) _
    have hSb := Stays.of_grown (S := fun k => Value.ownBlock _ = some k) hgb (fun k h => h)
    have hSB := row_own (HROWk.out.sep (hashE_keeps _) hst9 (fun _ h => h.elim))
    have HROW : Hid (RowO HashE 29 32 w.heap.size wb vb (xs ++ [V])) := Lib.hid (RowO.app HCL.out (World.ownsRow.alloc HOWN.out _) (fun i y hy => by
      obtain ⟨cs', h6, h7, h8⟩ := HCSS.out i y hy
      exact ⟨cs', h6, h7, h8⟩) (hashE_keeps _) (by decide) ⟨rfl, HVL.out⟩ HHS.out hlb hgb)
    have HR9 := Lib.hid (HRk.out.fut hnew)
    obtain ⟨vr9, hgb9, _⟩ := HR9.out
    have nn : ∀ {z : Nat} {T : TypeId} {cs : Array Value}, Blk (w5.alloc (.cells (hCells V).toArray 29)) z T cs → T ≠ 29 → ¬ (Value.ownBlock _ = some z) := fun hz hT hk => by
      obtain ⟨_, cs, h1⟩ := hSB _ hk
      exact hT (hz.inj h1).1
    have HRb := Lib.hid (HR9.out.stays hSb (fun k hk => .inr ⟨by have := (hSB k hk).1; have := HBW.out; omega, 29, (hSB k hk).2.choose, (hSB k hk).2.choose_spec, by decide⟩) (nn hgb9 (by decide)))
    have HSB : Hid (Stays (· = g) w wb) := Lib.hid ((HSk.out.trans hst9 fun _ _ h => h.elim).trans hSb fun k hk h => absurd (hSB k h).1 (by omega))
    have HAb : Hid (AheadB wb pa a) := Lib.hid ((HAk.out.fut hnew).stays hSb (fun k hk => ⟨_, _, (hSB k hk).2.choose_spec, by decide⟩))
    clear hnew hst9 hSb hSB hlb hgb hob nn hgb9 HR9 HRk HSk HROWk HOWN HCSS HCL
    obtain ⟨pb, mb, db, rfl⟩ := HROW.out.opens
    go_roundw
    case rel => exact ⟨j', xs ++ [V], er5, r5, _, _, _, by omega, by go_num, rfl, Lib.hid (by have := HXJ.out; rw [List.length_append]; simp only [List.length_cons, List.length_nil]; omega), HROW, HRb, HAb, HSB, Lib.hid (LoopC.step HCk.out HTT.out)⟩
    case measure => simp [intOf]
set_option maxRecDepth 100000 in
set_option maxHeartbeats 8000000 in
theorem qHdrs_any (D B g : Nat) (hD : D ≤ B) (w : World) (er : Int) (s : Bs) (h : MRd 70 D B g w er s) :
    Calls Try.prog 59 #[.pointer (some ⟨g, 0, none⟩)] w (MkP 70 D B g w hdsZ er s fun w' xs v => RowO HdrE 33 68 B w' v xs) := by
  have hcall := qCount_any D B g 100 (by omega) w er s h
  have HBW := Lib.hid (show D ≤ w.heap.size by have := h.gB; omega)
  have HBB := Lib.hid h.gB
  have hzh := zeroHdr
  clear h
  go_enter Try.func59, Try.ntmps59
  go_wp2_with fail
  refine hcall.mono ?_
  rintro e w1 ⟨v, n, er1, r1, rfl, ⟨rfl, hn⟩, HR1, HS1, HT1⟩
  have HI0 : Hid (RowO HdrE 33 68 w.heap.size w1 (.slice none 0 0) []) := Lib.hid (RowO.nil _ _ _ _ _)
  clear hcall
  go_wp2_with fail
  go_loopw [3, 4] (fun l i wr => ∃ (j : Nat) (xs : List Hdr) (er : Int) (sr : Bs) (pl : Option Addr) (nl cl : Nat), j ≤ n ∧ i = .int .i64 j ∧ l = .slice pl nl cl ∧ Hid (xs.length + j = n) ∧ Hid (RowO HdrE 33 68 w.heap.size wr (.slice pl nl cl) xs) ∧ Hid (MRd 70 D B g wr er sr) ∧ Hid (Stays (· = g) w wr) ∧ Hid (LoopC er1 (manyZ hdrT n r1) er (contM xs hdrT j sr))) (fun _ i _ => (intOf i).toNat)
  case atStart => exact ⟨n, [], er1, r1, _, _, _, Nat.le_refl _, rfl, rfl, Lib.hid (by simp), HI0, HR1, HS1, Lib.hid (LoopC.start _ _ _ _)⟩
  case round =>
    clear HI0 HR1 HS1
    obtain ⟨j, xs, er, sr, pl, nl, cl, hj, rfl, rfl, HXJ, HROWk, HRk, HSk, HCk⟩ := hrel
    obtain ⟨vr, k1, k2, k3, k4, k5⟩ := HRk.out
    obtain ⟨e0, e1, g0, g1⟩ := cell2 k1
    clear k1 k2 k3
    by_cases hj0 : j = 0
    · subst hj0
      have hgt : ¬ (0 : Int) < ((0 : Nat) : Int) := by omega
      go_wp2_with fail
      go_ret
      exact ⟨_, xs, er, sr, rfl, HROWk.out.mono (fun _ _ h => h) HBB.out.2, HRk, HSk, Lib.hid (HT1.out.bind (f := manyZ _) (LoopC.done HCk.out (.inl rfl)))⟩
    have hgt : (0 : Int) < (j : Int) := by omega
    by_cases he : er = 0
    case neg =>
      have hb1 : (er == 0) = false := by rw [beq_eq_false_iff_ne]; exact he
      have HE := Lib.hid he
      clear he
      go_wp2_with fail
      go_ret
      exact ⟨_, xs, er, sr, rfl, HROWk.out.mono (fun _ _ h => h) HBB.out.2, HRk, HSk, Lib.hid (HT1.out.bind (f := manyZ _) (LoopC.done HCk.out (.inr HE.out)))⟩
    subst he
    obtain ⟨j', rfl⟩ : ∃ j', j = j' + 1 := ⟨j - 1, by omega⟩
    have hge1 : (1 : Int) ≤ ((j' + 1 : Nat) : Int) := by omega
    go_wp2_with fail
    refine (qTake_any D B g 80 (by omega) wr 0 sr HRk.out).mono ?_
    rintro e w4 ⟨v4, b, er4, r4, rfl, ⟨hd, hl⟩, HR4, HS4, HT4⟩
    obtain ⟨p, m, c, rfl, hm, hmc, hcm, hr, hp⟩ := hd.open
    have hdec := refHdrDecode_any p m c b w4 hr hm hmc (by omega) (by omega)
    rw [hdrP_80 hl] at hdec
    obtain ⟨hd1, hhd⟩ : ∃ x, x = hdrOf b := ⟨_, rfl⟩
    obtain ⟨rest, hrest⟩ : ∃ x, x = b.drop 80 := ⟨_, rfl⟩
    have hok : hd1.ok := by rw [hhd]; exact hdrOf_ok b (by omega)
    rw [← hhd, ← hrest] at hdec
    unfold HdrPost at hdec
    simp only at hdec
    have HHD := Lib.hid hhd
    have HK := Lib.hid hok
    have hone := Hdr.cells_one hd1
    have hsz := Hdr.cells_size hok
    have HSZ := Lib.hid hsz
    have hns : noHdr.cells.toArray.size = hd1.cells.toArray.size := by rw [hsz]; exact Hdr.cells_size noHdr_ok
    have HROW4 := Lib.hid (HROWk.out.sep (hdrE_keeps _) HS4.out (Sep.low fun k hk => by have : k = g := hk; have := HBB.out; omega))
    have HS04 := Lib.hid (HSk.out.trans HS4.out fun _ _ h => h)
    clear hd hl hm hr hp hhd hrest hsz hok HRk HROWk HSk HS4 e0 e1 g0 g1
    go_wp2_with fail
    refine hdec.mono ?_
    rintro e w5 ⟨v5, rfl, ho5, hb5⟩
    have HR5 := Lib.hid (HR4.out.fut hb5)
    have HROW5 := Lib.hid (HROW4.out.sep (hdrE_keeps _) (Stays.of_below hb5 (Nat.le_refl _) (fun _ => False)) (fun _ h => h.elim))
    have HS05 := Lib.hid (HS04.out.trans (Stays.of_below hb5 (Nat.le_refl _) (fun _ => False)) fun _ _ h => h.elim)
    have hbn := below_new w5 (.cells noHdr.cells.toArray 33)
    clear hdec ho5 hb5 HR4 HROW4 HS04
    go_upto_region 6 with ((with_reducible refine wp_store_blk (o := ⟨none, _, _, _, _, _⟩) ?_ 33 (.tmp 5) (.tmp 25) ?_ (w5.heap.size) 33 (noHdr.cells.toArray) (hd1.cells.toArray) ?_ ?_ (Blk.new w5 _ _) ?_ ?_ ?_ (w5.heap.size) (w5) ?_ ?_ ?_
                            · rfl
                            · rfl
                            · rfl
                            · rfl
                            · exact (by rw [List.size_toArray]; exact hdr_size HK.out)
                            · exact (hns)
                            · exact (hone)
                            · exact (hbn)
                            · exact (Nat.le_refl _)
                            intro w6 hB6 hb6 hg6 hs6))
    try simp only [put_none]
    have HR6 := Lib.hid (HR5.out.fut hb6)
    have HROW6 := Lib.hid (HROW5.out.sep (hdrE_keeps _) (Stays.of_below hb6 (Nat.le_refl _) (fun _ => False)) (fun _ h => h.elim))
    have HS06 := Lib.hid (HS05.out.trans (Stays.of_below hb6 (Nat.le_refl _) (fun _ => False)) fun _ _ h => h.elim)
    have HZ6 := Lib.hid hB6.out
    obtain ⟨z4, hz4⟩ : ∃ z, z = w5.heap.size := ⟨_, rfl⟩
    have HZG : Hid (B ≤ z4) := Lib.hid (by rw [hz4]; exact HR5.out.gB.2)
    rw [← hz4] at HZ6 ⊢
    clear hz4 hbn hns hone hb6 hg6 hs6 hB6 HR5 HROW5 HS05
    have hnb := below_new w6 (.cells #[.int .u8 (iv8 0#8)] 5)
    have hrow := new_one w6 0#8
    have hgl : g < w6.heap.size := by have := HR6.out.gB; omega
    have HR7 := Lib.hid (HR6.out.fut hnb)
    have hst7 : Stays (fun _ => False) w6 (w6.alloc (.cells #[.int .u8 (iv8 0#8)] 5)) := Stays.of_below hnb (Nat.le_refl _) _
    have HROW7 := Lib.hid (HROW6.out.sep (hdrE_keeps _) hst7 (fun _ h => h.elim))
    have HS07 := Lib.hid (HS06.out.trans hst7 fun _ _ h => h.elim)
    have HZ7 := Lib.hid (HZ6.out.fut hnb)
    have hmust := qMust_any D B g _ er4 r4 _ 1 1 [0#8] HR7.out rfl (by omega) hrow (fun _ x hx e => by injection hx with hx; rw [← hx] at e; simp only at e; omega)
    clear hnb hrow hgl hst7 HR6 HROW6 HS06 HZ6
    go_wp2_with fail
    refine hmust.mono ?_
    rintro e w8 ⟨rfl, er8, r8, HRk, HS8, HT8⟩
    have HROWk := Lib.hid (HROW7.out.sep (hdrE_keeps _) HS8.out (Sep.low fun k hk => by have : k = g := hk; have := HBB.out; omega))
    have HSk := Lib.hid (HS07.out.trans HS8.out fun _ _ h => h)
    have HZ8 := Lib.hid (HZ7.out.stays HS8.out (by have := HZG.out; have := HBB.out; omega))
    have HTT : Hid (Step hdrT 0 sr hd1 er8 r8) := Lib.hid (by rw [HHD.out]; exact HT4.out.bind (HT8.out.bind (Step.ret _ _ _)))
    clear hmust HR7 HROW7 HS07 HZ7 HS8 HT4 HT8
    obtain ⟨css, hcl, hown, hcs⟩ := HROWk.out
    have HOWN := Lib.hid hown
    have HCSS := Lib.hid hcs
    have HCL := Lib.hid hcl
    have hxl : xs.length ≤ 2000 := by have := HXJ.out; omega
    have hBw8 : w.heap.size ≤ w8.heap.size := HSk.out.size
    have HHS : Hid (hd1.cells.length = 68) := Lib.hid (Hdr.cells_len HK.out)
    have l8 := blk_range HZ8.out
    clear hown hcs hcl
    go_wp2_with (first
      | (with_reducible refine wpList_load_mid (op := ⟨some 32, _, _, _, _, _⟩) ?_ 33 (.tmp 5) ?_ (z4) (0) ?_ (hd1.cells) _ (l8) Try.underlying33 ?_ ?_ ?_
         · rfl
         · rfl
         · rfl
         · rfl
         · exact (hdr_size HK.out))
      | (with_reducible refine wp_lit (o := ⟨some 33, _, _, _, _, _⟩) ?_ 31 33 1 #[(0, .tmp 32)] ?_ [.agg (hd1.cells).toArray] ?_ 68 80 _ Try.underlying31 hdr_infoM ?_ ?_ ?_ ?_ ?_ ?_
         · rfl
         · rfl
         · rfl
         · omega
         · exact (fun v hv => by rw [List.mem_singleton.1 hv]; exact HSZ.out)
         · rfl
         · omega
         · omega
         simp only [List.flatMap_cons, List.flatMap_nil, List.append_nil, Value.cells])
      | (with_reducible refine wp_rowapp (o := ⟨some 34, _, _, _, _, _⟩) ?_ (.tmp 31) (.tmp 33) 31 33 ?_ _ 68 80 Try.underlying31 hdr_infoM ?_ ?_ ?_ w.heap.size _ xs.length css.flatten ?_ (World.ownsRow.alloc HOWN.out _) w8.heap.size 1 1 (hd1.cells) ?_ (Blk.new w8 _ _) ?_ ?_ ?_ ?_ ?_
         · rfl
         · rfl
         · rfl
         · omega
         · omega
         · rfl
         · rfl
         · exact HHS.out
         · exact one_all (Hdr.cells_one hd1)
         · omega
         · rw [World.size_alloc]; omega
         intro vb wb hlb hgb hob))
    have hnew := below_new w8 (.cells (hd1.cells).toArray 33)
    have hst9 : Stays (fun _ => False) w8 (w8.alloc (.cells (hd1.cells).toArray 33)) := Stays.of_below hnew (Nat.le_refl _) _
    have hSb := Stays.of_grown (S := fun k => Value.ownBlock _ = some k) hgb (fun k h => h)
    have hSB := row_own (HROWk.out.sep (hdrE_keeps _) hst9 (fun _ h => h.elim))
    have HROW : Hid (RowO HdrE 33 68 w.heap.size wb vb (xs ++ [hd1])) := Lib.hid (RowO.app HCL.out (World.ownsRow.alloc HOWN.out _) (fun i y hy => by
      obtain ⟨cs', h6, h7, h8⟩ := HCSS.out i y hy
      exact ⟨cs', h6, h7, h8⟩) (hdrE_keeps _) (by decide) ⟨rfl, HK.out⟩ HHS.out hlb hgb)
    have HR9 := Lib.hid (HRk.out.fut hnew)
    obtain ⟨vr9, hgb9, _⟩ := HR9.out
    have nn : ∀ {z : Nat} {T : TypeId} {cs : Array Value}, Blk (w8.alloc (.cells (hd1.cells).toArray 33)) z T cs → T ≠ 33 → ¬ (Value.ownBlock _ = some z) := fun hz hT hk => by
      obtain ⟨_, cs, h1⟩ := hSB _ hk
      exact hT (hz.inj h1).1
    have HRb := Lib.hid (HR9.out.stays hSb (fun k hk => .inr ⟨by have := (hSB k hk).1; have := HBW.out; omega, 33, (hSB k hk).2.choose, (hSB k hk).2.choose_spec, by decide⟩) (nn hgb9 (by decide)))
    have HSB : Hid (Stays (· = g) w wb) := Lib.hid ((HSk.out.trans hst9 fun _ _ h => h.elim).trans hSb fun k hk h => absurd (hSB k h).1 (by omega))
    clear hnew hst9 hSb hSB hlb hgb hob nn hgb9 HR9 HRk HSk HROWk HOWN HCSS HCL
    obtain ⟨pb, mb, db, rfl⟩ := HROW.out.opens
    go_roundw
    case rel => exact ⟨j', xs ++ [hd1], er8, r8, _, _, _, by omega, by go_num, rfl, Lib.hid (by have := HXJ.out; rw [List.length_append]; simp only [List.length_cons, List.length_nil]; omega), HROW, HRb, HSB, Lib.hid (LoopC.step HCk.out HTT.out)⟩
    case measure => simp [intOf]
end Go.Proofs.Ytndobjlodpkknaa
