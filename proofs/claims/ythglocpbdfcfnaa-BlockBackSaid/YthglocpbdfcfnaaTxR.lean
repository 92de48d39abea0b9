/- The reader of transactions: take, num, must, text. -/
import Derived.Test.YthglocpbdfcfnaaTxO
import Derived.WalkSmall
namespace Go.Proofs.Ythglocpbdfcfnaa
open Go Go.RowKit
set_option linter.unusedVariables false

theorem addr_add0 (a : Addr) : a.add 0 = a := by
  obtain ⟨b, o, i⟩ := a
  unfold Addr.add
  split <;> simp_all
theorem slice_hm8 (w : World) (p : Option Addr) (m c k : Nat) (h : k ≤ m) (h2 : m ≤ c) :
    (Instr.sliceAt 27 (.slice p m c) none (some (.int .i64 (k : Int))) (some (.int .i64 (k : Int)))).run Try.prog w = .ok (.slice p k k) w := by
  have hu : Try.prog.underlying 27 = some (.slice (Try.prog.elem 27)) := by kernel_rfl
  have hs : (sizeOf (Try.prog.elem 27)).run Try.prog w = .ok 1 w := by kernel_rfl
  rw [run_sliceAt_slice w _ _ _ _ _ hu, run_slice_hm w _ _ _ _ hu _ _ _ _ (by omega) (by omega) (by omega)]
  rw [hs]
  have e : p.map (fun x => x.add 0) = p := by
    cases p with
    | none => rfl
    | some a => rw [Option.map_some, addr_add0]
  simp [Result.andThen, sliced, e]
theorem Dat.open {B g : Nat} {w : World} {v : Value} {s : Bs} (h : Dat B g w v s) : ∃ p n c, v = .slice p n c ∧ s.length = n ∧ n ≤ c ∧ c ≤ 9223372036854775807 ∧ Row8 w p s ∧ (p = none → c = 0) := by
  obtain ⟨⟨p, n, c, rfl, h1, h2, h3, h4, h5⟩, _⟩ := h
  exact ⟨p, n, c, rfl, h1, h2, by unfold maxLen at h3; omega, h4, h5⟩
theorem Dat.take {B g : Nat} {w : World} {p : Option Addr} {n c k : Nat} {s : Bs} (h : Dat B g w (.slice p n c) s) (hk : k ≤ n) (hp : p = none → c = 0) : Dat B g w (.slice p k k) (s.take k) := by
  obtain ⟨⟨p', n', c', e, h1, h2, h3, h4, h5⟩, h6⟩ := h
  injection e with e1 e2 e3
  subst e1 e2 e3
  exact ⟨⟨p, k, k, rfl, by rw [List.length_take]; omega, Nat.le_refl _, by omega, h4.take k, fun e => by have := h5 e; omega⟩, fun h0 j hj => h6 (fun e => h0 (by rw [e, List.take_nil])) j (by rw [own_slice] at hj ⊢; exact hj)⟩
theorem Dat.cut {B g : Nat} {w : World} {p : Option Addr} {n c k : Nat} {s : Bs} (h : Dat B g w (.slice p n c) s) (hk : k ≤ n) : Dat B g w (.slice (cut8 p c k) (n - k) (c - k)) (s.drop k) := by
  obtain ⟨⟨p', n', c', e, h1, h2, h3, h4, h5⟩, h6⟩ := h
  injection e with e1 e2 e3
  subst e1 e2 e3
  refine ⟨⟨_, _, _, rfl, by rw [List.length_drop]; omega, by omega, by omega, ?_, fun e => ?_⟩, fun h0 j hj => h6 (fun e => h0 (by rw [e, List.drop_nil])) j ?_⟩
  · exact h4.drop (by omega)
  · unfold cut8 at e
    split at e
    · omega
    · cases p with
      | none => have := h5 rfl; omega
      | some a => cases e
  · rw [own_slice] at hj ⊢
    rw [own_cut8] at hj
    exact hj
theorem Dat.own {B g : Nat} {w : World} {v : Value} {s : Bs} (h : Own8 w B v s) (hg : g < B) : Dat B g w v s := by
  refine ⟨h.sl, fun _ k hk => ?_⟩
  rcases h.2 with ⟨rfl, _⟩ | ⟨q, cap, cur, rfl, hB, hh, _⟩
  · cases hk
  · injection hk with hk
    subst hk
    exact ⟨by have : B ≤ q := hB; simp only; omega, .inr ⟨cur, hh⟩⟩
/-- the reader moved on -/
theorem RdAt.move {B g : Nat} {w : World} {v v' : Value} {s' : Bs} (h : Blk w g 75 #[v]) (hd : Dat B g w v' s') (hl : s'.length ≤ 200000000000000) (hg : g < B) (hB : B ≤ w.heap.size) : RdAt B g (w.setCell ⟨g, 0, none⟩ v') s' := by
  refine ⟨v', ?_, hd.stays (Stays.set w g 0 v') (fun k hk => .inl hk), hl, hg, by simpa using hB⟩
  have := h.set 0 v'
  simpa using this

set_option maxRecDepth 100000 in
set_option maxHeartbeats 2000000 in
theorem rdTake_any (B g k : Nat) (hk : k ≤ 9223372036854775807) (w : World) (s : Bs) (h : RdAt B g w s) :
    Calls Try.prog 68 #[.pointer (some ⟨g, 0, none⟩), .int .i64 (k : Int)] w (RdP B g w (takeZ k) s fun w' a v => Dat B g w' v a ∧ a.length = k) := by
  obtain ⟨v, h1, h2, h3, h4, h5⟩ := h
  obtain ⟨p, n, c, rfl, hn, hnc, hcm, hr, hp⟩ := h2.open
  have HD := Lib.hid h2
  have H1 := Lib.hid h1
  have c0 := h1.cell 0
  have f0 := h1.frozen 0
  simp only [List.getElem?_toArray, List.getElem?_cons_zero] at c0
  by_cases hkn : n < k
  · have hz : takeZ k s = .error 50 := takeZ_short (by omega)
    have HZ := Lib.hid hz
    have hlt : (n : Int) < (k : Int) := by omega
    clear hz h2 hr hp h1
    go_enter Try.func68, Try.ntmps68
    go_wp2
    exact ⟨rfl, RdP.bad HZ.out (Stays.refl _ _)⟩
  · have hz : takeZ k s = .ok (s.take k, s.drop k) := by unfold takeZ; rw [if_neg (by omega)]
    have HZ := Lib.hid hz
    have hlt : ¬ (n : Int) < (k : Int) := by omega
    have s1 := slice_hm8 w p n c k (by omega) hnc
    have s2 := slice_cut8 w p n c k (by omega)
    have HT := Lib.hid (h2.take (k := k) (by omega) hp)
    have HC := Lib.hid (h2.cut (k := k) (by omega))
    have HL : Hid (s.length = n) := Lib.hid hn
    clear hz h2 hr hp h1 hn
    go_enter Try.func68, Try.ntmps68
    go_wp2
    go_ret
    refine RdP.ok HZ.out ⟨HT.out.stays (Stays.set w g 0 _) (fun k hk => .inl hk), by rw [List.length_take]; have := HL.out; omega⟩ (RdAt.move H1.out HC.out (by rw [List.length_drop]; omega) h4 h5) (Stays.set w g 0 _)

set_option maxRecDepth 100000 in
set_option maxHeartbeats 2000000 in
theorem rdNum_any (B g k : Nat) (hk : k ≤ 8) (w : World) (s : Bs) (h : RdAt B g w s) :
    Calls Try.prog 67 #[.pointer (some ⟨g, 0, none⟩), .int .i64 (k : Int)] w (RdP B g w (numZ k) s fun w' a v => v = .int .u64 (iv64 a)) := by
  have hcall := rdTake_any B g k (by omega) w s h
  cases hz : takeZ k s with
  | error e =>
    have HZ : Hid (numZ k s = .error e) := Lib.hid (Pz.bind_err hz)
    unfold RdP at hcall
    rw [hz] at hcall
    clear hz
    go_enter Try.func67, Try.ntmps67
    go_wp2_with fail
    refine hcall.mono ?_
    rintro e w1 ⟨rfl, hs1⟩
    go_wp2_with fail
    exact ⟨rfl, RdP.bad HZ.out hs1⟩
  | ok x =>
    obtain ⟨a, r⟩ := x
    have HZ : Hid (numZ k s = .ok (numTo a k, r)) := Lib.hid (Pz.bind_ok hz)
    unfold RdP at hcall
    rw [hz] at hcall
    clear hz
    go_enter Try.func67, Try.ntmps67
    go_wp2_with fail
    refine hcall.mono ?_
    rintro e w1 ⟨v, rfl, ⟨hd, hl⟩, hr1, hs1⟩
    obtain ⟨p, n, c, rfl, hn, hnc, hcm, hr, hp⟩ := hd.open
    obtain rfl : n = k := by omega
    have HR := Lib.hid hr1
    have HS := Lib.hid hs1
    have HN := Lib.hid hn
    clear hd hr1 hs1 hn hl hcall h
    go_wp2_with fail
    go_loopw [5, 12] (fun s i wr => ∃ k : Nat, k ≤ n ∧ i = .int .i64 k ∧ s = .int .u64 (iv64 (numTo a k)) ∧ wr = w1) (fun _ i _ => n - (intOf i).toNat)
    case atStart => exact ⟨0, by omega, rfl, rfl, rfl⟩
    case round =>
      obtain ⟨k, hk2, rfl, rfl, hwr⟩ := hrel
      replace hwr := hwr.symm
      subst hwr
      by_cases hkn : k < n
      · obtain ⟨bb, of, rfl, _, hcell⟩ := hr (fun e => by have := HN.out; rw [e] at this; simp at this; omega)
        obtain ⟨b, hb⟩ : ∃ b, a[k]? = some b := ⟨a[k]'(by rw [HN.out]; exact hkn), List.getElem?_eq_getElem _⟩
        have hx : w1.cell? ⟨bb, of + k, none⟩ = some (.int .u8 (iv8 b)) := hcell k b hb
        have hlt : (k : Int) < (n : Int) := by omega
        have hb2 : 8 * (k : Int) ≤ 56 := by omega
        have hb1 : (0 : Int) ≤ 8 * (k : Int) := by omega
        have hst := num_step a k b hb
        clear hcell hr
        go_wp2
        go_roundw
        case rel => exact ⟨k + 1, by omega, by go_num, rfl, trivial⟩
        case measure => simp [intOf]; omega
      · obtain rfl : k = n := by omega
        go_wp2
        go_ret
        exact RdP.ok HZ.out rfl HR.out HS.out

def MustP (k : Int) (w : World) (e : Ending) (w' : World) : Prop := w' = w ∧ e = if k = 0 then .returned (.tuple #[]) else .panicked [{ v := .iface 28 (.int .i64 k), recovered := false }]
set_option maxRecDepth 100000 in
theorem must_any (k : Int) (w : World) : Calls Try.prog 87 #[.int .i64 k] w (MustP k w) := by
  by_cases hk : k = 0
  · subst hk
    go_enter Try.func87, Try.ntmps87
    go_wp2
    first | go_end0 | refine bodyPost_ret (results_none rfl _ _ _) rfl ?_
    exact ⟨rfl, rfl⟩
  · have hb : (k == 0) = false := by rw [beq_eq_false_iff_ne]; exact hk
    have HK := Lib.hid hk
    clear hk
    go_enter Try.func87, Try.ntmps87
    go_wp2
    exact ⟨rfl, rfl, by rw [if_neg HK.out]⟩

set_option maxRecDepth 100000 in
set_option maxHeartbeats 2000000 in
theorem rdText_any (B g : Nat) (w : World) (s : Bs) (h : RdAt B g w s) :
    Calls Try.prog 74 #[.pointer (some ⟨g, 0, none⟩)] w (RdP B g w textZ s fun w' a v => Own8 w' B v a) := by
  obtain ⟨v, h1, h2, h3, h4, h5⟩ := h
  obtain ⟨p, n, c, rfl, hn, hnc, hcm, hr, hp⟩ := h2.open
  have H1 := Lib.hid h1
  have c0 := h1.cell 0
  simp only [List.getElem?_toArray, List.getElem?_cons_zero] at c0
  have hcall := readText_any p n c s 10000 w hr hn hnc hcm (by omega) (by omega) (by omega)
  have hz := textZ_eq s
  have hle : (textP s 10000).2.1.length ≤ s.length := by
    have := cutP_short s
    unfold textP
    split
    · simp
    · split
      · simp
      · split
        · simp
        · simp; omega
  obtain ⟨x, hx⟩ : ∃ x, x = textP s 10000 := ⟨_, rfl⟩
  rw [← hx] at hcall hz hle
  obtain ⟨a, r, k⟩ := x
  simp only at hz hle
  unfold ReadPost at hcall
  simp only at hcall
  have HZ := Lib.hid hz
  have HLE := Lib.hid hle
  clear hx hz hle h1 h2 hr hn hp
  by_cases hk : k = 0
  · subst hk
    go_enter Try.func74, Try.ntmps74
    go_wp2_with fail
    refine hcall.mono ?_
    rintro e w1 ⟨v1, v2, rfl, ho1, ho2, hb1⟩
    have HB := Lib.hid hb1
    have hg1 := H1.out.fut hb1
    have f1 := hg1.frozen 0
    have d1 := hg1.cell 0
    simp only [List.getElem?_toArray, List.getElem?_cons_zero] at d1
    have hm := must_any 0 w1
    unfold MustP at hm
    rw [if_pos rfl] at hm
    have HG1 := Lib.hid hg1
    have HO1 := Lib.hid (ownsRow_mono ho1 h5)
    obtain ⟨q2, m2, c2, rfl, _⟩ := Own8.open ho2
    have HO2 : Hid (Own8 w1 B (.slice q2 m2 c2) r) := Lib.hid (ownsRow_mono ho2 h5)
    clear hb1 hg1 ho1 ho2 hcall
    go_wp2_with fail
    refine hm.mono ?_
    rintro e w2 ⟨hw2, rfl⟩
    replace hw2 := hw2.symm
    subst hw2
    go_wp2_with fail
    go_ret
    have hd : Dat B g w1 (.slice q2 m2 c2) r := Dat.own HO2.out h4
    have hsz := HB.out.size
    refine RdP.ok (by rw [HZ.out, if_pos trivial]) (Own8.sep HO1.out (Stays.set w1 g 0 _) (Sep.low fun k hk => by have : k = g := hk; omega)) (RdAt.move HG1.out hd (by have := HLE.out; omega) h4 (by omega)) ?_
    exact (Stays.of_below HB.out (Nat.le_refl _) _).trans (Stays.set w1 g 0 _) fun k _ hk => hk
  · have HK := Lib.hid hk
    clear hk
    go_enter Try.func74, Try.ntmps74
    go_wp2_with fail
    refine hcall.mono ?_
    rintro e w1 ⟨v1, v2, rfl, ho1, ho2, hb1⟩
    have HB := Lib.hid hb1
    have hm := must_any k w1
    unfold MustP at hm
    rw [if_neg HK.out] at hm
    clear hb1 ho1 ho2 hcall
    go_wp2_with fail
    refine hm.mono ?_
    rintro e w2 ⟨hw2, rfl⟩
    replace hw2 := hw2.symm
    subst hw2
    go_wp2_with fail
    exact ⟨rfl, RdP.bad (by rw [HZ.out, if_neg HK.out]) (Stays.of_below HB.out (Nat.le_refl _) _)⟩
end Go.Proofs.Ythglocpbdfcfnaa
