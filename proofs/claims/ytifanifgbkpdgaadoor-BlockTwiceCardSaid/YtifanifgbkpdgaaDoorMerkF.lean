/- slices.Clone and slices.Equal of hashes: the walks. -/
import Derived.Test.YtifanifgbkpdgaaDoorMerkE
import Derived.Lib.BufferMore
namespace Go.Proofs.YtifanifgbkpdgaaDoor
open Go.RowKit

/-- a row of hashes of the call's own -/
def OwnH (w : World) (B : Nat) (v : Value) (l : List (List (BitVec 8))) : Prop := w.ownsRow B 24 32 v l.length (l.map hCells).flatten
def GivesH (w : World) (l : List (List (BitVec 8))) (e : Ending) (w' : World) : Prop := ∃ v, e = .returned v ∧ OwnH w' w.heap.size v l ∧ Below w.heap.size w w'
theorem OwnH.open {w : World} {B : Nat} {v : Value} {l : List (List (BitVec 8))} (h : OwnH w B v l) (hl : ∀ x ∈ l, x.length = 32) : ∃ p c, v = .slice p l.length c ∧ l.length ≤ c ∧ c ≤ 9223372036854775807 ∧ RowsN 32 w p (l.map hCells) := by
  rcases Nat.eq_zero_or_pos l.length with h0 | h0
  · have hn : l = [] := List.eq_nil_of_length_eq_zero h0
    subst hn
    rcases h.2 with ⟨rfl, _⟩ | ⟨g, cap, cur, rfl, _, _, hc, hm, _⟩
    · exact ⟨none, 0, rfl, Nat.le_refl _, by omega, fun hne => absurd rfl hne⟩
    · exact ⟨_, cap, rfl, hc, hm, fun hne => absurd rfl hne⟩
  · obtain ⟨g, cap, rfl, _, hc1, hc2, hrow⟩ := own_hrow hl rfl h0 h
    exact ⟨_, cap, rfl, hc1, hc2, hrow.rows hl⟩

set_option maxRecDepth 100000 in
set_option maxHeartbeats 4000000 in
theorem cloneH_any (p : Option Addr) (n c : Nat) (ids : List (List (BitVec 8))) (w : World) (hn : ids.length = n) (hbig : n ≤ 4398046511000) (hr : RowsN 32 w p (ids.map hCells)) (hp : p = none → n = 0) :
    Calls Tryd.prog 12 #[.slice p n c] w (GivesH w ids) := by
  have HN := Lib.hid hn
  have HR := Lib.hid hr
  clear hn hr
  cases p with
  | none =>
    have hn0 : n = 0 := hp rfl
    subst hn0
    have hi : ids = [] := List.eq_nil_of_length_eq_zero HN.out
    subst hi
    have hnil : ∀ W, (binOp .eql 22 (.slice none 0 c) (.slice none 0 0)).run Tryd.prog W = .ok (.bool true) W := fun W => Lib.run_eql_slice_nil_nil W _ _ Tryd.underlying22
    go_enter Tryd.func12, Tryd.ntmps12
    go_wp2
    go_ret
    exact ⟨_, rfl, ⟨rfl, .inl ⟨rfl, rfl⟩⟩, Below.refl _ _⟩
  | some a =>
    clear hp
    have hnil : ∀ W, (binOp .eql 22 (.slice (some a) n c) (.slice none 0 0)).run Tryd.prog W = .ok (.bool false) W := fun W => Lib.run_eql_slice_some_nil W _ _ _ Tryd.underlying22
    have hb2 := (Below.refl w.heap.size w).alloc (Nat.le_refl _) (.cells #[] 24)
    have ho2 : (w.alloc (.cells #[] 24)).ownsRow w.heap.size 24 32 (.slice (some ⟨w.heap.size, 0, none⟩) 0 0) 0 [] := World.ownsRow_made w #[] 0 (Nat.le_refl _) (Nat.zero_le _) rfl
    have hr2 : RowsN 32 (w.alloc (.cells #[] 24)) (some a) (ids.map hCells) := HR.out.below hb2 (Nat.le_refl _)
    go_enter Tryd.func12, Tryd.ntmps12
    go_wp2_with (with_reducible refine wp_append_row (o := ⟨some 7, _, _, _, _, _⟩) ?_ (.tmp 5) (.tmp 6) 22 24 ?_ 32 32 _ Tryd.underlying22 hash_info ?_ (by omega) w.heap.size _ 0 [] ?_ ho2 (some a) n c (ids.map hCells) ?_ ?_ hr2 flat_oneCell ?_ ?_ ?_ w.heap.size w hb2 ?_ ?_
                 · rfl
                 · rfl
                 · rfl
                 · rfl
                 · rfl
                 · rw [List.length_map]; exact HN.out
                 · omega
                 · unfold maxLen; omega
                 · exact hb2.size
                 · exact Nat.le_refl _
                 intro v3 w3 ho3 hb3 _ _)
    go_ret
    rw [List.nil_append, Nat.zero_add] at ho3
    exact ⟨_, rfl, by unfold OwnH; rw [HN.out]; exact ho3, hb3⟩

set_option maxRecDepth 100000 in
set_option maxHeartbeats 4000000 in
theorem equalH_same (p q : Option Addr) (n c d : Nat) (ids : List (List (BitVec 8))) (w : World) (hn : ids.length = n) (hok : ∀ x ∈ ids, x.length = 32) (hbig : n ≤ 4398046511000) (hnc : n ≤ c) (hnd : n ≤ d) (hp : RowsN 32 w p (ids.map hCells)) (hq : RowsN 32 w q (ids.map hCells)) :
    Calls Tryd.prog 24 #[.slice p n c, .slice q n d] w fun e w' => e = .returned (.bool true) ∧ Below w.heap.size w w' := by
  have HN := Lib.hid hn
  have HO := Lib.hid hok
  have HP := Lib.hid hp
  have HQ := Lib.hid hq
  clear hn hok hp hq
  go_enter Tryd.func24, Tryd.ntmps24
  go_wp2
  have hb0 := Below.refl w.heap.size w
  go_loopw [13] (fun i wr => ∃ k : Nat, k ≤ n ∧ i = .int .i64 k ∧ Below w.heap.size w wr) (fun i _ => n - (intOf i).toNat)
  case atStart => exact ⟨0, by omega, rfl, hb0⟩
  case round =>
    obtain ⟨k, hk, rfl, hb⟩ := hrel
    clear hb0
    by_cases hkn : k < n
    · have hne : ids.map hCells ≠ [] := by intro e; rw [List.map_eq_nil_iff] at e; have := HN.out; rw [e] at this; simp at this; omega
      obtain ⟨b, off, hp1, hbl, hrow⟩ := HP.out hne
      obtain ⟨b2, off2, hp2, hbl2, hrow2⟩ := HQ.out hne
      subst hp1
      subst hp2
      have hx : (ids.map hCells)[k]? = some (hCells (hA ids k)) := by rw [List.getElem?_map, hA_some (by rw [HN.out]; omega)]; rfl
      have r1 : Hid (∀ j, (wr.drewN j).rangeAt b (off + k * 32) (hCells (hA ids k))) := Lib.hid fun j => rangeAt_below (hrow k _ hx).2 (below_drewN hb j) hbl
      have r2 : Hid (∀ j, (wr.drewN j).rangeAt b2 (off2 + k * 32) (hCells (hA ids k))) := Lib.hid fun j => rangeAt_below (hrow2 k _ hx).2 (below_drewN hb j) hbl2
      have hokk := Lib.hid (hA_len HO.out k)
      have E := hash_same (hA ids k) hokk.out
      have hlt : (k : Int) < (n : Int) := by omega
      have hk63 : (k : Int) + 1 ≤ 9223372036854775807 := by omega
      clear hrow hrow2 hx hne
      obtain ⟨A, hA⟩ : ∃ x, x = hA ids k := ⟨_, rfl⟩
      rw [← hA] at r1 r2 hokk E
      clear hA
      have hi1 : Hid ((Tryd.prog.info? 24).map (·.size) = some (hCells A).length) := Lib.hid (hCells_info hokk.out)
      go_upto_region 6 with fail
      refine quiet_in (fun k => wr.drewN k) 1 rfl (by kernel_rfl) (by kernel_rfl) ?_
      iterate 3 (go_big_quiet_step (fail))
      refine quiet_load_mid rfl 24 (.tmp 18) rfl b (off + k * 32) rfl (hCells A) _ (fun w' ⟨t, h⟩ => by rw [h]; exact r1.out t) Tryd.underlying24 rfl hi1.out ?_
      simp only [put_some, List.setIfInBounds_toArray, List.set_cons_succ, List.set_cons_zero]
      iterate 3 (go_big_quiet_step (fail))
      refine quiet_load_mid rfl 24 (.tmp 22) rfl b2 (off2 + k * 32) rfl (hCells A) _ (fun w' ⟨t, h⟩ => by rw [h]; exact r2.out t) Tryd.underlying24 rfl hi1.out ?_
      simp only [put_some, List.setIfInBounds_toArray, List.set_cons_succ, List.set_cons_zero]
      go_big_quiet_step (exact E _)
      refine wpQuiet_nil ?_
      rintro _ ⟨nq, rfl⟩
      go_wp2
      go_roundw
      case rel => exact ⟨k + 1, by omega, by go_num, below_drewN hb nq⟩
      case measure => simp [intOf]; omega
    · have hkn' : k = n := by omega
      subst hkn'
      go_wp2
      go_ret
      exact ⟨rfl, hb⟩
end Go.Proofs.YtifanifgbkpdgaaDoor
