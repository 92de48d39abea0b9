/- The reader of transactions: an output; rows in which an element is written. -/
import Derived.Test.YthglocpbdfcfnaaTxT
namespace Go.Proofs.Ythglocpbdfcfnaa
open Go Go.RowKit
set_option linter.unusedVariables false

theorem toInt_small (v : BitVec 64) (h : ¬ 9223372036854775808 ≤ v.toNat) : v.toInt = iv64 v := by
  have e : iv64 v = (v.toNat : Int) := rfl
  rw [e, BitVec.toInt_eq_toNat_cond, if_pos (by omega)]
theorem built_out (V sv : Value) (h1 : V.cells = #[V]) (h2 : sv.cells = #[sv]) (k : Int) (hV : V = .int .i64 k) (p : Option Addr) (n c : Nat) (hs : sv = .slice p n c) : Try.prog.built 61 [(0, V), (1, sv)] = some #[V, sv] := by
  subst hV hs
  kernel_rfl
theorem shr63 (v : BitVec 64) : iv64 v / 9223372036854775808 = if 9223372036854775808 ≤ v.toNat then 1 else 0 := by
  have h := v.isLt
  have e : iv64 v = (v.toNat : Int) := rfl
  rw [e]
  split <;> omega
set_option maxRecDepth 100000 in
set_option maxHeartbeats 8000000 in
theorem rdOut_any (B g : Nat) (w : World) (s : Bs) (h : RdAt B g w s) :
    Calls Try.prog 72 #[.pointer (some ⟨g, 0, none⟩)] w (RdP B g w outZ s fun w' a v => ∃ cs, CellV v cs ∧ OutO B w' a cs) := by
  have hgB : g < B := h.elim fun v h => h.2.2.2.1
  have hBw : B ≤ w.heap.size := h.elim fun v h => h.2.2.2.2
  have hz := zOut
  have HR1 := Lib.hid (h.fut (below_new w (.cells #[.int .i64 0, .slice none 0 0] 61)))
  have HB1 := Lib.hid (Blk.new w 61 #[.int .i64 0, .slice none 0 0])
  have HS1 : Hid (Stays (· = g) w (w.alloc (.cells #[.int .i64 0, .slice none 0 0] 61))) := Lib.hid (Stays.of_below (below_new w _) (Nat.le_refl _) _)
  clear h
  go_enter Try.func72, Try.ntmps72
  go_upto_region 1 with fail
  generalize w.alloc (.cells #[.int .i64 0, .slice none 0 0] 61) = w1 at *
  go_wp2_with fail
  refine (rdNum_any B g 8 (by omega) w1 s HR1.out).mono ?_
  intro e W2 h
  rcases h.cases with ⟨n, r1, HT1, v, rfl, hv, HR2, HS2⟩ | ⟨kk, HT1, rfl, HS2⟩
  case inr =>
    go_wp2_with fail
    exact ⟨rfl, RdP.bad (by unfold outZ; rw [Pz.bind_err HT1.out]) (HS1.out.trans HS2.out fun k _ hk => hk)⟩
  subst hv
  go_upto_region 2 with fail
  have hsh := shr63 n
  have HB2 := Lib.hid (HB1.out.stays HS2.out (by omega))
  have HS2' := Lib.hid (HS1.out.trans HS2.out fun k _ hk => hk)
  clear HR1 HB1 HS1 hz HS2
  by_cases hbig : 9223372036854775808 ≤ n.toNat
  · rw [if_pos hbig] at hsh
    have HBG := Lib.hid hbig
    clear hbig
    go_wp2_with fail
    exact ⟨rfl, RdP.bad (by unfold outZ; rw [Pz.bind_ok HT1.out, if_pos HBG.out]; rfl) HS2'.out⟩
  · rw [if_neg hbig] at hsh
    have HBG := Lib.hid hbig
    have HW := Lib.hid (toInt_small n hbig)
    clear hbig
    go_wp2_with fail
    refine (rdText_any B g W2 r1 HR2.out).mono ?_
    intro e W3 h
    rcases h.cases with ⟨sc, r2, HT2, v3, rfl, ho3, HR3, HS3⟩ | ⟨kk, HT2, rfl, HS3⟩
    case inr =>
      go_wp2_with fail
      exact ⟨rfl, RdP.bad (by unfold outZ; rw [Pz.bind_ok HT1.out, if_neg HBG.out, Pz.bind_err HT2.out]) (HS2'.out.trans HS3.out fun k _ hk => hk)⟩
    obtain ⟨q3, n3, c3, rfl, _⟩ := Own8.open ho3
    have HB3 := Lib.hid (HB2.out.stays HS3.out (by omega))
    have HO3 : Hid (Own8 W3 B (.slice q3 n3 c3) sc) := Lib.hid ho3
    have hbt := built_out (.int .i64 (iv64 n)) (.slice q3 n3 c3) rfl rfl (iv64 n) rfl q3 n3 c3 rfl
    have hbr := Below.refl w.heap.size W3
    clear ho3 hsh
    go_wp2_with (with_reducible refine wp_build (o := ⟨some 14, _, _, _, _, _⟩) ?_ 61 #[(0, .tmp 11), (1, .tmp 13)] ?_ [(0, .int .i64 (iv64 n)), (1, .slice q3 n3 c3)] ?_ #[.int .i64 (iv64 n), .slice q3 n3 c3] hbt ?_
                 · rfl
                 · rfl
                 · rfl
                 refine wp_store_blk (o := ⟨none, _, _, _, _, _⟩) rfl 61 (.tmp 2) (.tmp 14) rfl w.heap.size 61 #[.int .i64 0, .slice none 0 0] #[.int .i64 (iv64 n), .slice q3 n3 c3] rfl rfl HB3.out (info_Outs (cs := [.int .i64 (iv64 n), .slice q3 n3 c3]) rfl) rfl (by rw [List.all_toArray]; rfl) w.heap.size W3 hbr (Nat.le_refl _) ?_
                 intro W7 hB7 hb7 hg7 hs7)
    refine bodyPost_ret (results_cell1 rfl _ _ _ w.heap.size _ [.int .i64 (iv64 n), .slice q3 n3 c3] _ rfl hB7.out Try.underlying61 rfl (by kernel_rfl)) rfl ?_
    have hst7 := Stays.of_grown (S := fun k => k = w.heap.size) hg7.out (fun k h => by injection h with h; exact h.symm)
    refine RdP.ok (by unfold outZ; rw [Pz.bind_ok HT1.out, if_neg HBG.out, Pz.bind_ok HT2.out]; rfl) ⟨_, rfl, .slice q3 n3 c3, by rw [HW.out], HO3.out.sep hst7 (sep_one HB3.out (by decide))⟩ (HR3.out.stays hst7 (rw_one HB3.out hBw (by decide)) (by omega)) ((HS2'.out.trans HS3.out fun k _ hk => hk).trans hst7 fun k h1 h2 => by omega)

theorem insZ_parts (s : Bs) : insZ s = match partsZ 2000 inZ s with
    | .ok (l, r) => if l.length = 0 then .error 51 else .ok (l, r)
    | .error e => .error e := by
  unfold insZ partsZ
  cases hc : cntZ 2000 s with
  | error e => rw [Pz.bind_err hc, Pz.bind_err hc]
  | ok x =>
    obtain ⟨n, r⟩ := x
    rw [Pz.bind_ok hc, Pz.bind_ok hc]
    by_cases h0 : n = 0
    · subst h0
      rfl
    · rw [if_neg h0]
      cases hm : manyZ inZ n r with
      | error e => rfl
      | ok y =>
        obtain ⟨l, r'⟩ := y
        have := (many_ok inZ_ok n _ _ _ hm).2.1
        simp only
        rw [if_neg (by omega)]
/-- what is read so far of witnesses -/
def contW (xs : List TIn) (ys : List TIn) (s : Bs) : Except Int (List TIn × Bs) := match witsZ ys s with
  | .ok (l, r) => .ok (xs ++ l, r)
  | .error e => .error e
theorem contW_start (ys : List TIn) (s : Bs) : witsZ ys s = contW [] ys s := by
  unfold contW
  cases witsZ ys s with
  | error e => rfl
  | ok x => rfl
theorem contW_end (xs : List TIn) (s : Bs) : contW xs [] s = .ok (xs, s) := by
  unfold contW witsZ Pz.ret
  simp
theorem contW_ok {xs ys : List TIn} {x : TIn} {s r : Bs} {a : List Bs} (h : partsZ 100 textZ s = .ok (a, r)) : contW xs (x :: ys) s = contW (xs ++ [{ x with wi := a }]) ys r := by
  unfold contW
  rw [show witsZ (x :: ys) = ((partsZ 100 textZ).bind fun w => (witsZ ys).bind fun l => Pz.ret ({ x with wi := w } :: l)) from rfl, Pz.bind_ok h]
  unfold Pz.bind
  cases witsZ ys r with
  | error e => rfl
  | ok x => simp [Pz.ret]
theorem contW_bad {xs ys : List TIn} {x : TIn} {s : Bs} {e : Int} (h : partsZ 100 textZ s = .error e) : contW xs (x :: ys) s = .error e := by
  unfold contW
  rw [show witsZ (x :: ys) = ((partsZ 100 textZ).bind fun w => (witsZ ys).bind fun l => Pz.ret ({ x with wi := w } :: l)) from rfl, Pz.bind_err h]

theorem flat_set (N : Nat) : ∀ (css : List (List Value)), (∀ cs ∈ css, cs.length = N) → ∀ (i : Nat) (cs : List Value), css[i]? = some cs → ∀ j, j < N → ∀ u, css.flatten.set (i * N + j) u = (css.set i (cs.set j u)).flatten
  | [], _, i, cs, h, j, hj, u => by cases h
  | c :: css, hl, i, cs, h, j, hj, u => by
    have hc := hl c (List.mem_cons_self ..)
    cases i with
    | zero =>
      rw [List.getElem?_cons_zero] at h
      injection h with h
      subst h
      rw [List.flatten_cons, Nat.zero_mul, Nat.zero_add, List.set_append_left _ _ (by omega), List.set_cons_zero, List.flatten_cons]
    | succ i =>
      rw [List.getElem?_cons_succ] at h
      rw [List.flatten_cons, List.set_append_right _ _ (by rw [Nat.succ_mul]; omega), hc, Nat.succ_mul, show i * N + N + j - N = i * N + j by omega, List.set_cons_succ, List.flatten_cons, flat_set N css (fun cs h => hl cs (List.mem_cons_of_mem _ h)) i cs h j hj u]
theorem css_set_len {css : List (List Value)} {N i : Nat} {cs : List Value} (hl : ∀ cs ∈ css, cs.length = N) (hc : cs.length = N) : ∀ c ∈ css.set i cs, c.length = N := fun c hm => by
  rcases List.mem_or_eq_of_mem_set hm with h | rfl
  · exact hl c h
  · exact hc
/-- a cell of an element of a row of one's own is written -/
theorem RowO.poke {α : Type} {E : World → α → List Value → Prop} {T N B : Nat} {Ts : List TypeId} {w : World} {b n c k j : Nat} {xs : List α} (h : RowO E T N B w (.slice (some ⟨b, 0, none⟩) n c) xs) (hE : KeepsO B Ts E) (hT : T ∉ Ts) {x x' : α} {u : Value} (hx : xs[k]? = some x) (hj : j < N)
    (hx' : ∀ cs, E w x cs → cs.length = N → E (w.setCell ⟨b, k * N + j, none⟩ u) x' (cs.set j u)) :
    (∃ cur, Blk w b T cur ∧ B ≤ b ∧ k * N + j < cur.size) ∧ RowO E T N B (w.setCell ⟨b, k * N + j, none⟩ u) (.slice (some ⟨b, 0, none⟩) n c) (xs.set k x') := by
  obtain ⟨css, h1, h2, h3⟩ := h
  have hk : k < xs.length := (List.getElem?_eq_some_iff.1 hx).1
  have hl := css_len h1 h3
  rcases h2.2 with ⟨e, _⟩ | ⟨g, cap, cur, e, hB, hh, hc1, hc2, hsz, htk⟩
  · cases e
  · injection e with e1 e2 e3
    injection e1 with e1
    injection e1 with e1
    subst e1 e2 e3
    have hb : Blk w b T cur := hh
    have hlt : k * N + j < xs.length * N := by
      have := Nat.mul_le_mul_right N (show k + 1 ≤ xs.length by omega)
      rw [Nat.succ_mul] at this
      omega
    have hcN := Nat.mul_le_mul_right N hc1
    have hst := Stays.set w b (k * N + j) u
    have hsep : Sep B Ts w (· = b) := sep_one hb hT
    obtain ⟨cs0, h40, h50, h60⟩ := h3 k x hx
    refine ⟨⟨cur, hb, hB, by omega⟩, css.set k (cs0.set j u), by simp [h1], ⟨?_, .inr ⟨b, c, cur.setIfInBounds (k * N + j) u, by simp, hB, hb.set _ _, ?_, hc2, ?_, ?_⟩⟩, fun i y hy => ?_⟩
    · rw [← flat_set N css hl k cs0 h40 j hj u, List.length_set, List.length_set]
      exact h2.1
    · rw [List.length_set]; exact hc1
    · rw [Array.size_setIfInBounds]; exact hsz
    · rw [List.length_set, ← flat_set N css hl k cs0 h40 j hj u, ← htk, Array.toList_setIfInBounds, List.take_set]
    · by_cases hik : i = k
      · subst hik
        rw [List.getElem?_set_self hk] at hy
        injection hy with hy
        subst hy
        exact ⟨cs0.set j u, by rw [List.getElem?_set_self (by omega)], hx' cs0 h50 h60, by rw [List.length_set]; exact h60⟩
      · rw [List.getElem?_set_ne (by omega)] at hy
        obtain ⟨cs, h4, h5, h6⟩ := h3 i y hy
        exact ⟨cs, by rw [List.getElem?_set_ne (by omega)]; exact h4, hE _ _ _ _ _ h5 hst hsep, h6⟩
end Go.Proofs.Ythglocpbdfcfnaa
