/- (*sha.Hasher).Write: the walk: it takes bytes. -/
import Derived.Test.YtikjhnbehihbjaaDoorShaJ
namespace Go.Proofs.YtikjhnbehihbjaaDoor
open Go.RowKit

theorem grown_trans {w w1 w2 : World} {r : Option Nat} (h : w.grownBy w1 r) (h2 : w1.grownBy w2 r) : w.grownBy w2 r :=
  ⟨h2.os.trans h.os, h2.tape.trans h.tape, h2.output.trans h.output, Nat.le_trans h.size h2.size, fun k hk hn => (h2.block k (Nat.lt_of_lt_of_le hk h.size) hn).trans (h.block k hk hn)⟩
/-- a slice's first address lies elsewhere -/
def Far (p : Option Addr) (H : Nat) : Prop := ∀ a, p = some a → a.block ≠ H
theorem Row8.kept {w w' : World} {p : Option Addr} {bs : List (BitVec 8)} {H : Nat} (h : Row8 w p bs) (hg : w.grownBy w' (some H)) (hne : bs ≠ [] → Far p H) : Row8 w' p bs := fun hn => by
  obtain ⟨b, off, rfl, hlt, hc⟩ := h hn
  exact ⟨b, off, rfl, Nat.lt_of_lt_of_le hlt hg.size, fun i x hx => (World.cell?_of_block (a := ⟨b, off + i, none⟩) (hg.block b hlt (by intro e; injection e with e; exact hne hn _ rfl e))).trans (hc i x hx)⟩
theorem Row8.far {w : World} {p : Option Addr} {bs : List (BitVec 8)} {H : Nat} (h : Row8 w p bs) (hH : w.heap.size ≤ H) : bs ≠ [] → Far p H := fun hn a ha => by
  obtain ⟨b, off, rfl, hlt, hc⟩ := h hn
  injection ha with ha
  subst ha
  show b ≠ H
  omega
/-- the builtin copy of bytes into a block that is known whole; all other blocks stay -/
theorem wp_copy8g {P : Program} {w : World} {ops : Array Oper} {rest : List Oper} {o : Oper} {a : Act} {Q : Exit → Act → World → Prop} (hgd : o.guard = none) (d s : Operand) (dT sT : TypeId)
    (ho : o.op = .call { callee := .builtin .copy, args := #[d, s], argTypes := #[dT, sT] }) (elem : TypeId) (hu : P.underlying dT = some (.slice elem)) (hsz : (P.info? elem).map (·.size) = some 1)
    (dLen dCap m sCap : Nat) (sp : Option Addr) (bs : List (BitVec 8)) (g off : Nat) (hd : a.eval d = .slice (some ⟨g, off, none⟩) dLen dCap) (hs : a.eval s = .slice sp m sCap) (hm : bs.length = m)
    (hr : Row8 w sp bs) (cur : List Value) (t : TypeId) (hg : Blk w g t cur.toArray) (n : Nat) (hn : n = min m dLen) (hfit : off + n ≤ cur.length)
    (h : ∀ w', Hid (Blk w' g t (splice cur off ((bs.take dLen).map u8)).toArray) → w.grownBy w' (some g) → w'.heap.size = w.heap.size → wpList P ops Q rest (a.put o.dst (goInt (n : Int))) w') :
    wpList P ops Q (o :: rest) a w := by
  subst hm
  have hl : ((bs.take dLen).map u8).length = n := by simp [hn, Nat.min_comm]
  by_cases h0 : ((bs.take dLen).map u8).length = 0
  · have he : (bs.take dLen).map u8 = [] := List.eq_nil_of_length_eq_zero h0
    refine wpList_copy_nothing hgd d s dT sT ho elem hu hsz _ sp dLen dCap bs.length sCap hd hs (by rw [← h0, hl, hn]) ?_
    have := h w (by rw [he]; show _ = _; simpa [splice, Blk] using hg) (World.grownBy.refl w _) rfl
    rw [← hl, h0] at this
    exact this
  · have hne : bs ≠ [] := fun e => h0 (by rw [e]; simp)
    obtain ⟨b, of, rfl, hlt, hc⟩ := hr hne
    refine wpList_copy_own hgd d s dT sT ho elem hu hsz g off dLen dCap ⟨b, of, none⟩ bs.length sCap hd hs cur.toArray t hg ((bs.take dLen).map u8) (by rw [hl, hn]) ?_ (by rw [hl]; simpa using hfit) (map_u8_one _) ?_
    · intro j v hj
      rw [List.getElem?_map, List.getElem?_take] at hj
      split at hj
      · cases hx : bs[j]? with
        | none => rw [hx] at hj; simp at hj
        | some x =>
          rw [hx] at hj
          simp at hj
          subst hj
          rw [Addr.add_lit]
          exact hc j x hx
      · simp at hj
    · have hG := setRow_heap w g cur.toArray (splice cur off ((bs.take dLen).map u8)).toArray t _ hg
      have := h _ hG ⟨rfl, rfl, rfl, by simp, fun k _ hk => by
        simp [World.setRow, Array.getElem?_modify]; intro e; exact absurd (by rw [e]) hk⟩ (size_setRow _ _ _)
      rw [← hl] at this
      exact this

theorem Far.drop {p : Option Addr} {H k c : Nat} (h : Far p H) : Far (if c = k then p else p.map (·.add k)) H := by
  split
  · exact h
  · intro a ha
    cases p with
    | none => cases ha
    | some b => injection ha with ha; subst ha; have := h b rfl; unfold Addr.add; split <;> simpa using this

/-- where a slice cut at k begins -/
def cutAt (p : Option Addr) (c k : Nat) : Option Addr := if c = k then p else p.map (·.add k)
theorem slice_from8 (w : World) (p : Option Addr) (m c k : Nat) (h : k ≤ m) :
    (Instr.sliceAt 22 (.slice p m c) (some (.int .i64 (k : Int))) none none).run Tryd.prog w = .ok (.slice (cutAt p c k) (m - k) (c - k)) w := by
  have hs : (sizeOf (Tryd.prog.elem 22)).run Tryd.prog w = .ok 1 w := by kernel_rfl
  have hu : Tryd.prog.underlying 22 = some (.slice (Tryd.prog.elem 22)) := by kernel_rfl
  rw [run_sliceAt_slice w _ _ _ _ _ hu, run_slice_l w _ _ _ _ hu _ _ (by omega) (by omega), hs]
  simp [Result.andThen, sliced, cutAt]
theorem Far.cut {p : Option Addr} {H k c : Nat} (h : Far p H) : Far (cutAt p c k) H := h.drop
theorem Row8.cut {w : World} {p : Option Addr} {bs : List (BitVec 8)} (h : Row8 w p bs) {k c : Nat} (hc : bs.length ≤ c) : Row8 w (cutAt p c k) (bs.drop k) := h.drop hc

theorem hasher_more {w : World} {H : Nat} {A x part : List (BitVec 8)} (hp : part.length = 64) (ht : part.take (A.length % 64) = A.drop (64 * (A.length / 64))) (h : A.length % 64 + x.length < 64)
    (hB : Blk w H 99 (hsC (blocks A (A.length / 64)) (partP part x (A.length % 64)) (A.length + x.length)).toArray) : Hasher w H (A ++ x) := by
  obtain ⟨h1, h2, h3⟩ := hash_more A x part ht h
  refine ⟨partP part x (A.length % 64), partP_len x part hp _ (by omega), by rw [h1]; exact h3, ?_⟩
  rw [h1, h2, List.length_append]
  exact hB
theorem hasher_full {w : World} {H : Nat} {A x part : List (BitVec 8)} (hp : part.length = 64) (ht : part.take (A.length % 64) = A.drop (64 * (A.length / 64))) (h : A.length % 64 + x.length = 64)
    (hB : Blk w H 99 (hsC ((blocks A (A.length / 64)).mix (partP part x (A.length % 64))) (partP part x (A.length % 64)) (A.length + x.length)).toArray) : Hasher w H (A ++ x) := by
  obtain ⟨h1, h2, h3⟩ := hash_full A x part hp ht h
  refine ⟨partP part x (A.length % 64), partP_len x part hp _ (by omega), ?_, ?_⟩
  · rw [h2, h1, List.take_zero]
    refine (List.drop_of_length_le ?_).symm
    rw [List.length_append]; omega
  · rw [h1, h3, List.length_append]
    exact hB
theorem take_split {α : Type} (rest x : List α) (a k m : Nat) (hx : x = rest.take a) (hm : rest.length = m) (hk : k = min m a) : rest = x ++ rest.drop k := by
  subst hx
  have : rest.take a = rest.take k := by rw [List.take_eq_take_min, hk, hm, Nat.min_comm]
  rw [this, List.take_append_drop]

set_option maxRecDepth 100000 in
set_option maxHeartbeats 4000000 in
theorem write_any (H : Nat) (all bs : List (BitVec 8)) (p : Option Addr) (n c : Nat) (w : World) (hK : Laid w) (hH : gTop ≤ H) (hr : Row8 w p bs) (hn : bs.length = n) (hnc : n ≤ c) (hcm : c ≤ 9223372036854775807) (hf : bs ≠ [] → Far p H)
    (hbig : all.length + n ≤ 4611686018427387904) (hh : Hasher w H all) :
    Calls Tryd.prog 43 #[.pointer (some ⟨H, 0, none⟩), .slice p n c] w fun e w' => e = .returned (.int .i64 0) ∧ Hasher w' H (all ++ bs) ∧ w.grownBy w' (some H) := by
  have HK := Lib.hid hK
  have HH := Lib.hid hh
  have HF := Lib.hid hf
  have HN := Lib.hid hn
  have HR := Lib.hid hr
  have c0 : w.cell? ⟨H, 0, none⟩ = some (.bool true) := by
    obtain ⟨part, h1, h2, h3⟩ := hh
    rw [h3.cell]; exact hsC_made _ _ _
  have hHlt := hh.lt
  clear hK hh hf hn hr
  go_enter Tryd.func43, Tryd.ntmps43
  go_wp2_with fail
  clear c0
  go_loopw [1] (fun v wr => ∃ (done rest : List (BitVec 8)) (m c' : Nat) (p' : Option Addr), Hid (bs = done ++ rest) ∧ Hid (rest.length = m) ∧ v = .slice p' m c' ∧ m ≤ c' ∧ c' ≤ 9223372036854775807 ∧ Hid (Row8 wr p' rest) ∧ Hid (rest ≠ [] → Far p' H) ∧ Hid (Hasher wr H (all ++ done)) ∧ w.grownBy wr (some H)) (fun v _ => lenS v)
  case atStart => exact ⟨[], bs, n, c, p, Lib.hid rfl, HN, rfl, hnc, hcm, HR, HF, by rw [List.append_nil]; exact HH, World.grownBy.refl w _⟩
  case round =>
    obtain ⟨done, rest, m, c', p', HE, HM, rfl, hmc, hcm', HR', HF', HH', hgr⟩ := hrel
    by_cases hm : 0 < m
    · obtain ⟨part, hp, ht, hB⟩ := HH'.out
      have e1 := HE.out
      have e2 := HM.out
      have e3 := HN.out
      obtain ⟨A, hA⟩ : ∃ A, A = all ++ done := ⟨_, rfl⟩
      rw [← hA] at ht hB
      obtain ⟨L, hL⟩ : ∃ L, L = A.length := ⟨_, rfl⟩
      have hLb : L + m ≤ 4611686018427387904 := by
        rw [hL, hA, List.length_append]; rw [e1, List.length_append] at e3; omega
      obtain ⟨S, hS⟩ : ∃ S, S = blocks A (A.length / 64) := ⟨_, rfl⟩
      rw [← hS, ← hL] at hB
      have cn : wr.cell? ⟨H, 73, none⟩ = some (.int .u64 (L : Int)) := by rw [hB.cell]; exact hsC_n _ _ _ hp
      have fn : wr.frozen? ⟨H, 73, none⟩ = false := hB.frozen _
      obtain ⟨at0, hat⟩ : ∃ x, x = L % 64 := ⟨_, rfl⟩
      have hat64 : at0 < 64 := by omega
      have hmod : (L : Int) % 64 = (at0 : Int) := by omega
      have HB := Lib.hid hB
      have HP := Lib.hid hp
      have HT := Lib.hid ht
      have HS := Lib.hid hS
      have HL := Lib.hid hL
      have HA := Lib.hid hA
      have HAT := Lib.hid hat
      clear hB hp ht hS hL hA hat e1 e2 e3
      have hL0 : (L : Int) ≤ 9223372036854775807 := by omega
      have hmi : (0 : Int) < (m : Int) := by omega
      have a0 : (0 : Int) ≤ (at0 : Int) := by omega
      have a1 : (at0 : Int) ≤ 64 := by omega
      have a2 : ¬ ((64 : Nat) = at0) := by omega
      obtain ⟨kk, hkk⟩ : ∃ x, x = min m (64 - at0) := ⟨_, rfl⟩
      have hk0 : 0 < kk := by omega
      have hk1 : kk ≤ m := by omega
      have hk2 : at0 + kk ≤ 64 := by omega
      have hfit : 9 + at0 + kk ≤ (hsC S part L).length := by rw [hsC_len _ _ _ HP.out]; omega
      obtain ⟨x, hx⟩ : ∃ x, x = rest.take (64 - at0) := ⟨_, rfl⟩
      have hxl : x.length = kk := by rw [hx, List.length_take, HM.out, hkk, Nat.min_comm]
      have hxs : splice (hsC S part L) (9 + at0) ((rest.take (64 - at0)).map u8) = hsC S (partP part x at0) L := by
        rw [← hx, hsC_splice _ _ _ _ _ HP.out (by omega), hxl]; unfold partP; rw [hxl]
      have hpl : (partP part x at0).length = 64 := partP_len x part HP.out at0 (by omega)
      have HX := Lib.hid hx
      have HXL := Lib.hid hxl
      have HXS := Lib.hid hxs
      have HPL := Lib.hid hpl
      have HKK := Lib.hid hkk
      have HSP : Hid (rest = x ++ rest.drop kk) := Lib.hid (take_split _ _ _ _ _ hx HM.out hkk)
      clear hx hxl hxs hpl hkk
      have HNR : Hid (∀ w2, wr.grownBy w2 (some H) → Row8 w2 (cutAt p' c' kk) (rest.drop kk)) := Lib.hid (fun w2 h2 => (HR'.out.kept h2 HF'.out).cut (by rw [HM.out]; exact hmc))
      have HNF : Hid (rest.drop kk ≠ [] → Far (cutAt p' c' kk) H) := Lib.hid (fun hne => (HF'.out (by intro e; rw [e] at hne; simp at hne)).cut)
      have HRel : Hid (∀ w2, wr.grownBy w2 (some H) → Hasher w2 H (A ++ x) → ∃ (done rest : List (BitVec 8)) (m' c'' : Nat) (p'' : Option Addr), Hid (bs = done ++ rest) ∧ Hid (rest.length = m') ∧ Value.slice (cutAt p' c' kk) (m - kk) (c' - kk) = .slice p'' m' c'' ∧ m' ≤ c'' ∧ c'' ≤ 9223372036854775807 ∧ Hid (Row8 w2 p'' rest) ∧ Hid (rest ≠ [] → Far p'' H) ∧ Hid (Hasher w2 H (all ++ done)) ∧ w.grownBy w2 (some H)) :=
        Lib.hid (fun w2 h2 hh => ⟨done ++ x, rest.drop kk, m - kk, c' - kk, cutAt p' c' kk, Lib.hid (by rw [List.append_assoc, ← HSP.out]; exact HE.out), Lib.hid (by rw [List.length_drop, HM.out]), rfl, by omega, by omega, Lib.hid (HNR.out _ h2), HNF, Lib.hid (by rw [← List.append_assoc, ← HA.out]; exact hh), grown_trans hgr h2⟩)
      go_wp2_with (with_reducible refine wp_copy8g (o := ⟨some 31, _, _, _, _, _⟩) ?_ (.tmp 29) (.tmp 30) 22 22 ?_ 5 Tryd.underlying22 ?_ (64 - at0) (64 - at0) m c' p' rest H (9 + at0) ?_ ?_ HM.out HR'.out (hsC S part L) _ HB.out kk HKK.out hfit ?_
                   · rfl
                   · rfl
                   · rfl
                   · rfl
                   · rfl
                   intro w2 hB2 hg2 hz2
                   have hB3 := hB2.out
                   rw [HXS.out] at hB3
                   have cn2 : w2.cell? ⟨H, 73, none⟩ = some (.int .u64 (L : Int)) := by rw [hB3.cell]; exact hsC_n _ _ _ HPL.out
                   have fn2 : w2.frozen? ⟨H, 73, none⟩ = false := hB3.frozen _
                   have s0 : (0 : Int) ≤ (L : Int) + (kk : Int) := by omega
                   have s1 : (L : Int) + (kk : Int) ≤ 9223372036854775807 := by omega
                   have s2 : (0 : Int) ≤ (kk : Int) := by omega
                   have s3 : (kk : Int) ≤ 9223372036854775807 := by omega
                   have s4 : (at0 : Int) + (kk : Int) ≤ 64 := by omega
                   have s5 : (kk : Int) ≤ (m : Int) := by omega
                   have sl := fun w => slice_from8 w p' m c' kk hk1
                   have hB4 := hB3.set 73 (.int .u64 ((L : Int) + (kk : Int)))
                   have e4 := hsC_setn S (partP part x at0) L (L + kk) HPL.out
                   rw [Int.natCast_add] at e4
                   rw [e4] at hB4
                   have HB4 := Lib.hid hB4
                   clear hB2 hB3 hB4 e4 cn fn hfit hmod a2)
      · have hfull : at0 + kk = 64 := by
          have h1 : ((at0 : Int) + (kk : Int) == 64) = true := by assumption
          rw [beq_iff_eq] at h1; omega
        have hgr3 := grown_setCell hg2 73 (.int .u64 ((L : Int) + (kk : Int)))
        have hst : Hid (Blk (w2.setCell ⟨H, 73, none⟩ (.int .u64 ((L : Int) + (kk : Int)))) H 99 (stC [.bool true] ((partP part x at0).map u8 ++ [.int .u64 ((L + kk : Nat) : Int)]) S.list)) := HB4
        have hrg : ∀ j, ((w2.setCell ⟨H, 73, none⟩ (.int .u64 ((L : Int) + (kk : Int)))).drewN j).rangeAt H 9 ((partP part x at0).map u8) := fun j => (HB4.out.drewN j).rangeAt 9 _ (fun i v hv => hsC_part _ _ _ _ _ hv)
        have HRG := Lib.hid hrg
        have HBA : Hid (∀ j, Calls Tryd.prog 51 #[.pointer (some ⟨H, 1, none⟩), .agg ((partP part x at0).map u8).toArray] ((w2.setCell ⟨H, 73, none⟩ (.int .u64 ((L : Int) + (kk : Int)))).drewN j) fun e w' => e = .returned (.tuple #[]) ∧ Blk w' H 99 (stC [.bool true] ((partP part x at0).map u8 ++ [.int .u64 ((L + kk : Nat) : Int)]) (S.mix (partP part x at0)).list) ∧ ((w2.setCell ⟨H, 73, none⟩ (.int .u64 ((L : Int) + (kk : Int)))).drewN j).grownBy w' (some H)) :=
          Lib.hid (fun j => block_any H _ [.bool true] _ S _ _ HPL.out (hst.out.drewN j) hH ((HK.out.kept (grown_trans hgr hgr3) hH).kept (grown_drewN (World.grownBy.refl _ _) j) hH))
        clear hrg hst cn2 fn2
        refine quiet_tail 7 (by kernel_rfl) (by kernel_rfl) ?_
        simp only [List.take_succ_cons, List.take_zero, List.drop_succ_cons, List.drop_zero]
        iterate 6 (go_big_quiet_step (fail))
        refine quiet_load_midS rfl 97 (.tmp 53) rfl H 9 rfl ((partP part x at0).map u8) _ (fun w' ⟨j, hj⟩ => by rw [hj]; exact HRG.out j) Tryd.underlying97 rfl (by rw [List.length_map, HPL.out]; kernel_rfl) ?_
        refine wpQuiet_nil ?_
        rintro _ ⟨nq, rfl⟩
        go_wp2_with fail
        refine (HBA.out nq).mono ?_
        rintro e w3 ⟨rfl, hB5, hg5⟩
        have HB5 := Lib.hid hB5
        clear hB5
        go_wp2
        go_roundw
        case rel =>
          refine HRel.out _ (grown_trans (grown_trans hgr3 (grown_drewN (World.grownBy.refl _ _) nq)) hg5) (hasher_full HP.out HT.out ?_ ?_)
          · rw [← HL.out, HXL.out, ← HAT.out]; omega
          · have := HB5.out
            rw [HS.out, ← HL.out] at this
            rw [← HL.out, HXL.out, ← HAT.out]
            exact this
        case measure => simp [lenS]; omega
      · have hmore : at0 + kk < 64 := by
          have h1 : ((at0 : Int) + (kk : Int) == 64) = false := by assumption
          rw [beq_eq_false_iff_ne] at h1; omega
        go_roundw
        case rel =>
          refine HRel.out _ (grown_setCell hg2 _ _) (hasher_more HP.out HT.out ?_ ?_)
          · rw [← HL.out, HXL.out, ← HAT.out]; omega
          · have := HB4.out
            rw [HS.out, ← HL.out] at this
            rw [← HL.out, HXL.out, ← HAT.out]
            exact this
        case measure => simp [lenS]; omega
    · have h0 : m = 0 := by omega
      subst h0
      have hd : Hid (done = bs) := Lib.hid (by have h1 := HE.out; have h2 := List.eq_nil_of_length_eq_zero HM.out; rw [h1, h2, List.append_nil])
      rw [hd.out] at HH'
      go_wp2
      go_ret
      exact ⟨rfl, HH'.out, hgr⟩
end Go.Proofs.YtikjhnbehihbjaaDoor
