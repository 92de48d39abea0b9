/- sporranref10's reader, which keeps its first error: take, must, hash, count, text, number.  -/
import Derived.Test.YtndobjlodpkknaaAMsgR
namespace Go.Proofs.Ytndobjlodpkknaa
open Go Go.RowKit
set_option linter.unusedVariables false
set_option maxRecDepth 100000 in
set_option maxHeartbeats 4000000 in
theorem qTake_any (D B g k : Nat) (hk : k ≤ 1000) (w : World) (er : Int) (s : Bs) (h : MRd 70 D B g w er s) :
    Calls Try.prog 54 #[.pointer (some ⟨g, 0, none⟩), .int .i64 (k : Int)] w (MkP 70 D B g w (takeZ k) er s fun w' a v => Dat D g w' v a ∧ a.length = k) := by
  obtain ⟨v, h1, h2, h3, h4, h5⟩ := h
  obtain ⟨p, n, c, rfl, hn, hnc, hcm, hr, hp⟩ := h2.open
  obtain ⟨c0, c1, f0, f1⟩ := cell2 h1
  have HD := Lib.hid h2
  have H1 := Lib.hid h1
  have HN := Lib.hid hn
  have HS := Lib.hid h3
  by_cases he : er = 0
  · subst he
    by_cases hkn : n < k
    · have hz : takeZ k s = .error 50 := takeZ_short (by omega)
      have HZ := Lib.hid hz
      have hlt : (n : Int) < (k : Int) := by omega
      have hmk := fun w => make8z w k (by omega)
      have c1' := (cell2 (by simpa using h1.set 1 (.int .i64 50) : Blk (w.setCell ⟨g, 1, none⟩ (.int .i64 50)) g 70 #[.slice p n c, .int .i64 50])).2.1
      clear hz h2 hr hp h1 hn h3
      go_enter Try.func54, Try.ntmps54
      go_wp2
      go_ret
      have hm : MRd 70 D B g (w.setCell ⟨g, 1, none⟩ (.int .i64 50)) 50 s := MRd.mark H1.out HD.out HS.out h4 h5
      have hb := below_new (w.setCell ⟨g, 1, none⟩ (.int .i64 50)) (.cells (Array.replicate k (u8 0#8)) 5)
      have ho := own_z (w.setCell ⟨g, 1, none⟩ (.int .i64 50)) B k (by simpa using h5) (by omega)
      rw [show (w.setCell ⟨g, 1, none⟩ (.int .i64 50)).heap.size = w.heap.size by simp] at ho
      refine ⟨_, List.replicate k 0#8, 50, s, rfl, ⟨Dat.ownD ho h4, by simp⟩, Lib.hid (hm.fut hb), Lib.hid ((Stays.set w g 1 _).trans (Stays.of_below hb (Nat.le_refl _) (· = g)) fun k _ h => h), Lib.hid (Step.err HZ.out (by decide))⟩
    · have hz : takeZ k s = .ok (s.take k, s.drop k) := by unfold takeZ; rw [if_neg (by omega)]
      have HZ := Lib.hid hz
      have hlt : ¬ (n : Int) < (k : Int) := by omega
      have s1 := slice_h8q w p n c k (by omega)
      have s2 := slice_cut8 w p n c k (by omega)
      have HT := Lib.hid (h2.takec (k := k) (by omega))
      have HC := Lib.hid (h2.cut (k := k) (by omega))
      clear hz h2 hr hp h1 hn h3
      go_enter Try.func54, Try.ntmps54
      go_wp2
      go_ret
      exact ⟨_, s.take k, 0, s.drop k, rfl, ⟨HT.out.stays (Stays.set w g 0 _) (fun k hk => .inl hk), by rw [List.length_take]; have := HN.out; omega⟩, Lib.hid (MRd.move H1.out HC.out (by rw [List.length_drop]; have := HS.out; omega) h4 h5), Lib.hid (Stays.set w g 0 _), Lib.hid (Step.ok HZ.out)⟩
  · have hb1 : (er == 0) = false := by rw [beq_eq_false_iff_ne]; exact he
    have HE := Lib.hid he
    have hmk := fun w => make8z w k (by omega)
    clear h2 hr hp h1 hn h3 he
    go_enter Try.func54, Try.ntmps54
    go_wp2
    go_ret
    have hb := below_new w (.cells (Array.replicate k (u8 0#8)) 5)
    exact ⟨_, List.replicate k 0#8, er, s, rfl, ⟨Dat.ownD (own_z _ B k h5 (by omega)) h4, by simp⟩, Lib.hid (MRd.fut ⟨_, H1.out, HD.out, HS.out, h4, h5⟩ hb), Lib.hid (Stays.of_below hb (Nat.le_refl _) _), Lib.hid (Step.bad HE.out)⟩
theorem these_bad {want : Bs} {n : Nat} {er er' : Int} {s a r : Bs} (hM : want.length = n) (h : Step (takeZ n) er s a er' r) (he : er' ≠ 0) : Step (theseZ want) er s () er' r := by
  unfold Step at h ⊢
  split at h
  · rename_i e0
    rw [if_pos e0]
    cases hz : takeZ n s with
    | error k =>
      rw [hz] at h
      have hz2 : theseZ want s = .error k := by
        unfold takeZ at hz
        unfold theseZ
        rw [hM]
        split at hz
        · rename_i hlt; rw [if_pos hlt]; injection hz with hz; rw [hz]
        · cases hz
      rw [hz2]
      exact h
    | ok x => rw [hz] at h; exact absurd h.1 he
  · rename_i e0; rw [if_neg e0]; exact h
theorem splice_hash (id : Bs) (h : id.length = 32) : splice (hCells (nulls 32)) 0 ((id.take 32).map u8) = hCells id := by
  have e : id.take 32 = id := List.take_of_length_le (by omega)
  rw [e]
  simp [splice, hCells, h, nulls]
set_option maxRecDepth 100000 in
set_option maxHeartbeats 4000000 in
theorem qCount_any (D B g most : Nat) (hm : most ≤ 2000) (w : World) (er : Int) (s : Bs) (h : MRd 70 D B g w er s) :
    Calls Try.prog 84 #[.pointer (some ⟨g, 0, none⟩), .int .u64 (most : Int)] w (MkP 70 D B g w (cntZ most) er s fun w' a v => v = .int .i64 (a : Int) ∧ a ≤ most) := by
  obtain ⟨v, h1, h2, h3, h4, h5⟩ := h
  obtain ⟨p, n, c, rfl, hn, hnc, hcm, hr, hp⟩ := h2.open
  obtain ⟨c0, c1, f0, f1⟩ := cell2 h1
  have HD := Lib.hid h2
  have H1 := Lib.hid h1
  have HS := Lib.hid h3
  by_cases he : er = 0
  case neg =>
    have hb1 : (er == 0) = false := by rw [beq_eq_false_iff_ne]; exact he
    have HE := Lib.hid he
    clear h2 hr hp h1 hn h3 he
    go_enter Try.func84, Try.ntmps84
    go_wp2
    go_ret
    exact ⟨_, 0, er, s, rfl, ⟨rfl, Nat.zero_le _⟩, Lib.hid ⟨_, H1.out, HD.out, HS.out, h4, h5⟩, Lib.hid (Stays.refl _ _), Lib.hid (Step.bad HE.out)⟩
  subst he
  have hcall := refDecode_any p n c s w hr hn hnc (by omega)
  have hle := cutP_short s
  have hz : ∀ x : BitVec 64 × Bs × Int, x = cutP s → cntZ most s = if x.2.2 ≠ 0 then .error x.2.2 else if most < x.1.toNat then .error 4 else .ok (x.1.toNat, x.2.1) := fun x hx => by rw [hx]; rfl
  obtain ⟨x, hx⟩ : ∃ x, x = cutP s := ⟨_, rfl⟩
  rw [← hx] at hcall hle
  replace hz := hz x hx
  obtain ⟨cn, r, k⟩ := x
  simp only at hz hle
  unfold DecPost at hcall
  simp only at hcall
  have HZ := Lib.hid hz
  have HLE := Lib.hid hle
  have hcn : iv64 cn = (cn.toNat : Int) := rfl
  rw [hcn] at hcall
  have hc64 := cn.isLt
  obtain ⟨m, hm'⟩ : ∃ m, m = cn.toNat := ⟨_, rfl⟩
  rw [← hm'] at hcall hc64 HZ
  clear hx hz hle h1 h2 hr hn hp hcn hm'
  by_cases hk : k = 0
  case neg =>
    have hb1 : (k == 0) = false := by rw [beq_eq_false_iff_ne]; exact hk
    have HK := Lib.hid hk
    clear hk
    go_enter Try.func84, Try.ntmps84
    go_wp2_with fail
    refine hcall.mono ?_
    rintro e w1 ⟨v2, rfl, ho2, hb2⟩
    have hg1 := H1.out.fut hb2
    obtain ⟨d0, d1, g0, g1⟩ := cell2 hg1
    have HG1 := Lib.hid hg1
    have HB := Lib.hid hb2
    clear ho2 hcall hg1 hb2
    go_wp2_with fail
    go_ret
    have hsz := HB.out.size
    exact ⟨_, 0, k, s, rfl, ⟨rfl, Nat.zero_le _⟩, Lib.hid (MRd.mark HG1.out (HD.out.stays (Stays.of_below HB.out (Nat.le_refl _) (fun _ => False)) (fun _ h => h.elim)) HS.out h4 (by omega)), Lib.hid ((Stays.of_below HB.out (Nat.le_refl _) (· = g)).trans (Stays.set w1 g 1 _) fun k _ h => h), Lib.hid (Step.err (by rw [HZ.out, if_pos HK.out]) HK.out)⟩
  subst hk
  by_cases hbig : most < m
  · have hlt : (most : Int) < (m : Int) := by omega
    have HBG := Lib.hid hbig
    clear hbig
    go_enter Try.func84, Try.ntmps84
    go_wp2_with fail
    refine hcall.mono ?_
    rintro e w1 ⟨v2, rfl, ho2, hb2⟩
    have hg1 := H1.out.fut hb2
    obtain ⟨d0, d1, g0, g1⟩ := cell2 hg1
    have HG1 := Lib.hid hg1
    have HB := Lib.hid hb2
    clear ho2 hcall hg1 hb2
    go_wp2_with fail
    go_ret
    have hsz := HB.out.size
    exact ⟨_, 0, 4, s, rfl, ⟨rfl, Nat.zero_le _⟩, Lib.hid (MRd.mark HG1.out (HD.out.stays (Stays.of_below HB.out (Nat.le_refl _) (fun _ => False)) (fun _ h => h.elim)) HS.out h4 (by omega)), Lib.hid ((Stays.of_below HB.out (Nat.le_refl _) (· = g)).trans (Stays.set w1 g 1 _) fun k _ h => h), Lib.hid (Step.err (by rw [HZ.out, if_neg (by decide), if_pos HBG.out]) (by decide))⟩
  · have hlt : ¬ (most : Int) < (m : Int) := by omega
    have HBG := Lib.hid hbig
    have hm3 : m ≤ 2000 := by omega
    clear hbig
    go_enter Try.func84, Try.ntmps84
    go_wp2_with fail
    refine hcall.mono ?_
    rintro e w1 ⟨v2, rfl, ho2, hb2⟩
    have hg1 := H1.out.fut hb2
    obtain ⟨d0, d1, g0, g1⟩ := cell2 hg1
    obtain ⟨q2, m2, c2, rfl, _⟩ := Own8.open ho2
    have HO2 : Hid (Own8 w1 B (.slice q2 m2 c2) r) := Lib.hid (ownsRow_mono ho2 h5)
    have HG1 := Lib.hid hg1
    have HB := Lib.hid hb2
    clear ho2 hcall hg1 hb2
    go_wp2_with fail
    go_ret
    have hsz := HB.out.size
    refine ⟨_, m, 0, r, ?_, ⟨rfl, by have := HBG.out; omega⟩, Lib.hid (MRd.move HG1.out (Dat.ownD HO2.out h4) (by have := HLE.out; have := HS.out; omega) h4 (by omega)), Lib.hid ((Stays.of_below HB.out (Nat.le_refl _) (· = g)).trans (Stays.set w1 g 0 _) fun k _ h => h), Lib.hid (Step.ok (by rw [HZ.out, if_neg (by decide), if_neg HBG.out]))⟩
    rfl
set_option maxRecDepth 100000 in
set_option maxHeartbeats 4000000 in
theorem qText_any (D B g most : Nat) (hmost : most ≤ 1000000) (w : World) (er : Int) (s : Bs) (h : MRd 70 D B g w er s) :
    Calls Try.prog 56 #[.pointer (some ⟨g, 0, none⟩), .int .i64 (most : Int)] w (MkP 70 D B g w (textM most) er s fun w' a v => Own8 w' B v a) := by
  obtain ⟨v, h1, h2, h3, h4, h5⟩ := h
  obtain ⟨p, n, c, rfl, hn, hnc, hcm, hr, hp⟩ := h2.open
  obtain ⟨c0, c1, f0, f1⟩ := cell2 h1
  have HD := Lib.hid h2
  have H1 := Lib.hid h1
  have HS := Lib.hid h3
  by_cases he : er = 0
  case neg =>
    have hb1 : (er == 0) = false := by rw [beq_eq_false_iff_ne]; exact he
    have HE := Lib.hid he
    clear h2 hr hp h1 hn h3 he
    go_enter Try.func56, Try.ntmps56
    go_wp2
    go_ret
    exact ⟨_, [], er, s, rfl, own_none _ _, Lib.hid ⟨_, H1.out, HD.out, HS.out, h4, h5⟩, Lib.hid (Stays.refl _ _), Lib.hid (Step.bad HE.out)⟩
  subst he
  have hcall := refReadText_any p n c s (most : Int) w hr hn hnc (by omega) (by omega) (by omega)
  have hz := textM_eq most s
  have hle := (textP_short s most).1
  have hla := (textP_short s most).2
  obtain ⟨x, hx⟩ : ∃ x, x = textP s most := ⟨_, rfl⟩
  rw [← hx] at hcall hz hle hla
  obtain ⟨a, r, k⟩ := x
  simp only at hz hle hla
  unfold RefReadPost at hcall
  simp only at hcall
  have HZ := Lib.hid hz
  have HLE := Lib.hid hle
  have HLA := Lib.hid hla
  clear hx hz hle h1 h2 hr hn hp hla
  by_cases hk : k = 0
  case neg =>
    have hb1 : (k == 0) = false := by rw [beq_eq_false_iff_ne]; exact hk
    have HK := Lib.hid hk
    clear hk
    go_enter Try.func56, Try.ntmps56
    go_wp2_with fail
    refine hcall.mono ?_
    rintro e w1 ⟨q, d, v2, rfl, hqd, hra, ho2, hb2⟩
    have hg1 := H1.out.fut hb2
    obtain ⟨d0, d1, g0, g1⟩ := cell2 hg1
    have HG1 := Lib.hid hg1
    have HB := Lib.hid hb2
    clear ho2 hcall hg1 hb2 hra
    go_wp2_with fail
    go_ret
    have hsz := HB.out.size
    exact ⟨_, [], k, s, rfl, own_none _ _, Lib.hid (MRd.mark HG1.out (HD.out.stays (Stays.of_below HB.out (Nat.le_refl _) (fun _ => False)) (fun _ h => h.elim)) HS.out h4 (by omega)), Lib.hid ((Stays.of_below HB.out (Nat.le_refl _) (· = g)).trans (Stays.set w1 g 1 _) fun k _ h => h), Lib.hid (Step.err (by rw [HZ.out, if_neg HK.out]) HK.out)⟩
  subst hk
  go_enter Try.func56, Try.ntmps56
  go_wp2_with fail
  refine hcall.mono ?_
  rintro e w1 ⟨q, d, v2, rfl, hqd, hra, ho2, hb2⟩
  have hg1 := H1.out.fut hb2
  obtain ⟨d0, d1, g0, g1⟩ := cell2 hg1
  obtain ⟨q2, m2, c2, rfl, _⟩ := Own8.open ho2
  have HO2 : Hid (Own8 w1 B (.slice q2 m2 c2) r) := Lib.hid (ownsRow_mono ho2 h5)
  have HG1 := Lib.hid hg1
  have HB := Lib.hid hb2
  have HRA := Lib.hid hra
  obtain ⟨j, hj⟩ : ∃ j, j = a.length := ⟨_, rfl⟩
  rw [← hj] at hqd ⊢
  have HJ := Lib.hid hj
  have hsz := HB.out.size
  clear ho2 hcall hg1 hb2 hra hj
  go_upto_region 8 with fail
  have hs2 := Stays.set w1 g 0 (.slice q2 m2 c2)
  have HR2 : Hid (MRd 70 D B g (w1.setCell ⟨g, 0, none⟩ (.slice q2 m2 c2)) 0 r) := Lib.hid (MRd.move HG1.out (Dat.ownD HO2.out h4) (by have := HLE.out; have := HS.out; omega) h4 (by omega))
  have HS2 : Hid (Stays (· = g) w (w1.setCell ⟨g, 0, none⟩ (.slice q2 m2 c2))) := Lib.hid ((Stays.of_below HB.out (Nat.le_refl _) (· = g)).trans hs2 fun k _ h => h)
  have HRA2 : Hid (Row8 (w1.setCell ⟨g, 0, none⟩ (.slice q2 m2 c2)) q a) := Lib.hid (HRA.out.stays hs2 (fun h0 x hx hg => by
    have hg' : x.block = g := hg
    obtain ⟨b, o, e, _, hc⟩ := HRA.out h0
    rw [e] at hx
    injection hx with hx
    subst hx
    have hbg : b = g := hg'
    subst hbg
    obtain ⟨y, hy⟩ : ∃ y, a[0]? = some y := by
      cases a with
      | nil => exact absurd rfl h0
      | cons y _ => exact ⟨y, rfl⟩
    have h1 := hc 0 y hy
    rw [HG1.out.cell] at h1
    match o, h1 with
    | 0, h1 => cases h1
    | 1, h1 => cases h1
    | n + 2, h1 => cases h1))
  have hsz2 : B ≤ (w1.setCell ⟨g, 0, none⟩ (.slice q2 m2 c2)).heap.size := by have := hs2.size; omega
  clear hs2 HO2 HG1 HB HRA d0 d1 g0 g1
  generalize w1.setCell ⟨g, 0, none⟩ (.slice q2 m2 c2) = w3 at *
  have ho3 := own_lit0 w3 B hsz2
  have hb3 := below_new w3 (.cells #[] 5)
  have hr3 : Row8 (w3.alloc (.cells #[] 5)) q a := HRA2.out.fut hb3
  have hs3 : B ≤ (w3.alloc (.cells #[] 5)).heap.size := by rw [World.size_alloc]; omega
  have hbr := Below.refl B (w3.alloc (.cells #[] 5))
  go_wp2_with ((with_reducible refine wp_append8 (o := ⟨some 35, _, _, _, _, _⟩) ?_ (.tmp 33) (.tmp 34) ?_ (B) _ ([]) ?_ (ho3) (q) (j) (d) (a) ?_ (HJ.out.symm) (hr3) ?_ (hs3) (B) ((w3.alloc (.cells #[] 5))) (hbr) ?_ ?_
                · rfl
                · rfl
                · rfl
                · rfl
                · simp only [List.length_nil]; have := HLA.out; have := HS.out; omega
                · exact Nat.le_refl _
                intro v5 w5 ho5 hb5 hg5 hj5))
  go_ret
  have hst : Stays (fun _ => False) w3 w5 := ((Stays.of_below hb3 (Nat.le_refl _) (fun k => (Value.slice (some ⟨w3.heap.size, 0, none⟩) 0 0).ownBlock = some k)).trans (Stays.of_grown hg5 fun k h => h) (fun k _ h => h)).mono fun k hk h => by
    injection h with h
    have h' : w3.heap.size = k := h
    omega
  refine ⟨_, a, 0, r, rfl, ho5, Lib.hid (HR2.out.stays hst (fun _ h => h.elim) id), Lib.hid (HS2.out.trans hst fun _ _ h => h.elim), Lib.hid (Step.ok (by rw [HZ.out, if_pos trivial]))⟩
set_option maxRecDepth 100000 in
set_option maxHeartbeats 4000000 in
theorem qNum4_any (D B g : Nat) (w : World) (er : Int) (s : Bs) (h : MRd 70 D B g w er s) :
    Calls Try.prog 53 #[.pointer (some ⟨g, 0, none⟩)] w (MkP 70 D B g w (numZ 4) er s fun w' a v => v = .int .u32 (iv32 (a.setWidth 32))) := by
  have hcall := qTake_any D B g 4 (by omega) w er s h
  clear h
  go_enter Try.func53, Try.ntmps53
  go_wp2_with fail
  refine hcall.mono ?_
  rintro e w1 ⟨v, a, er', r, rfl, ⟨hd, hl⟩, HR, HS, HT⟩
  obtain ⟨p, n, c, rfl, hn, hnc, hcm, hr, hp⟩ := hd.open
  have hnum := number_any p n c a w1 hr hn (by omega)
  obtain rfl : n = 4 := by omega
  clear hd hn hr hp hl hcall
  have hcut := cut64_32 (numTo a 4)
  go_wp2_with fail
  refine hnum.mono ?_
  rintro e w2 ⟨rfl, hw⟩
  replace hw := hw.symm
  subst hw
  go_wp2_with fail
  go_ret
  exact ⟨_, numTo a 4, er', r, rfl, rfl, HR, HS, Lib.hid (HT.out.bind (Step.ret _ _ _))⟩
set_option maxRecDepth 100000 in
set_option maxHeartbeats 4000000 in
theorem qMust_any (D B g : Nat) (w : World) (er : Int) (s : Bs) (q : Option Addr) (m d : Nat) (want : Bs) (h : MRd 70 D B g w er s) (hm : want.length = m) (hm4 : m ≤ 100) (hq : Row8 w q want) (hqg : want ≠ [] → ∀ x, q = some x → x.block ≠ g) :
    Calls Try.prog 60 #[.pointer (some ⟨g, 0, none⟩), .slice q m d] w fun e w' => e = .returned (.tuple #[]) ∧ ∃ er' r, Hid (MRd 70 D B g w' er' r) ∧ Hid (Stays (· = g) w w') ∧ Hid (Step (theseZ want) er s () er' r) := by
  have hcall := qTake_any D B g m (by omega) w er s h
  have HM := Lib.hid hm
  have HQ := Lib.hid hq
  have HQG := Lib.hid hqg
  clear h hm hq hqg
  go_enter Try.func60, Try.ntmps60
  go_wp2_with fail
  refine hcall.mono ?_
  rintro e w1 ⟨v, a, er', r, rfl, ⟨hd, hl⟩, HR, HS, HT⟩
  obtain ⟨p, n, c, rfl, hn, hnc, hcm, hr, hp⟩ := hd.open
  obtain rfl : n = m := by omega
  obtain ⟨vr, h1, h2, h3, h4, h5⟩ := HR.out
  obtain ⟨c0, c1, f0, f1⟩ := cell2 h1
  have HQ1 : Hid (Row8 w1 q want) := Lib.hid (HQ.out.stays HS.out fun h0 x hx e => HQG.out h0 x hx e)
  have H1 := Lib.hid h1
  have HD := Lib.hid h2
  have HS3 := Lib.hid h3
  have HRR := Lib.hid hr
  have HN := Lib.hid hn
  clear hd h1 h2 h3 hr hn hcall hp hl
  by_cases he : er' = 0
  · subst he
    have k1 := HRR.out.convert n c HN.out
    have k2 := HQ1.out.convert n d HM.out
    have HT0 : Hid (er = 0 ∧ takeZ n s = .ok (a, r)) := Lib.hid (by
      have := HT.out
      unfold Step at this
      split at this
      · rename_i e0
        refine ⟨e0, ?_⟩
        cases hz : takeZ n s with
        | error k => rw [hz] at this; exact absurd this.1.symm this.2
        | ok x => rw [hz] at this; obtain ⟨_, h2, h3⟩ := this; rw [h2, h3]
      · rename_i e0; exact absurd this.symm e0)
    have HZ : Hid (theseZ want s = if a = want then .ok ((), r) else .error 51) := Lib.hid (by
      have hz := HT0.out.2
      unfold takeZ at hz
      unfold theseZ
      rw [HM.out]
      split at hz
      · cases hz
      · rename_i hlt
        rw [if_neg hlt]
        injection hz with hz
        injection hz with e1 e2
        rw [e1, e2])
    by_cases hw : a = want
    · have heq : ((strB a).toList == (strB want).toList) = true := by rw [strB_eq]; exact decide_eq_true hw
      have HW := Lib.hid hw
      clear hw
      go_wp2_with fail
      first | go_end0 | refine bodyPost_ret (results_none rfl _ _ _) rfl ?_
      exact ⟨rfl, 0, r, HR, HS, Lib.hid (by rw [HT0.out.1]; exact Step.ok (by rw [HZ.out, if_pos HW.out]))⟩
    · have heq : ((strB a).toList == (strB want).toList) = false := by rw [strB_eq]; exact decide_eq_false hw
      have HW := Lib.hid hw
      clear hw
      go_wp2_with fail
      first | go_end0 | refine bodyPost_ret (results_none rfl _ _ _) rfl ?_
      exact ⟨rfl, 51, r, Lib.hid (MRd.mark H1.out HD.out HS3.out h4 h5), Lib.hid (HS.out.trans (Stays.set w1 g 1 _) fun k _ h => h), Lib.hid (by rw [HT0.out.1]; exact Step.err (by rw [HZ.out, if_neg HW.out]) (by decide))⟩
  · have hb1 : (er' == 0) = false := by rw [beq_eq_false_iff_ne]; exact he
    have HE := Lib.hid he
    clear he
    go_wp2_with fail
    first | go_end0 | refine bodyPost_ret (results_none rfl _ _ _) rfl ?_
    exact ⟨rfl, er', r, HR, HS, Lib.hid (these_bad HM.out HT.out HE.out)⟩
set_option maxRecDepth 100000 in
set_option maxHeartbeats 8000000 in
theorem qHash_any (D B g : Nat) (hD : D ≤ B) (w : World) (er : Int) (s : Bs) (h : MRd 70 D B g w er s) :
    Calls Try.prog 58 #[.pointer (some ⟨g, 0, none⟩)] w (MkP 70 D B g w (takeZ 32) er s fun w' a v => v = .agg (hCells a).toArray ∧ a.length = 32) := by
  obtain ⟨hgB, hBw⟩ := h.gB
  have hz := zHash
  obtain ⟨YH, hYH⟩ : ∃ Y, Y = (hCells (nulls 32)).toArray := ⟨_, rfl⟩
  have HYS : Hid (YH.size = 32) := Lib.hid (by rw [hYH]; rfl)
  have HYY := Lib.hid hYH
  rw [← hYH] at hz
  have hb1 := below_new w (.cells YH 29)
  have hb2 := below_new (w.alloc (.cells YH 29)) (.cells YH 29)
  have HR2 := Lib.hid ((h.fut hb1).fut hb2)
  have HB2 := Lib.hid ((Blk.new w 29 YH).fut hb2)
  have HB3 := Lib.hid (Blk.new (w.alloc (.cells YH 29)) 29 YH)
  have HS2 : Hid (Stays (· = g) w ((w.alloc (.cells YH 29)).alloc (.cells YH 29))) := Lib.hid (((Stays.refl (· = g) w).alloc _).alloc _)
  simp only [World.size_alloc] at HB3
  clear h hb1 hb2 hYH
  go_enter Try.func58, Try.ntmps58
  go_upto_region 2 with fail
  generalize (w.alloc (.cells YH 29)).alloc (.cells YH 29) = w2 at *
  obtain ⟨z2, hz2⟩ : ∃ z, z = w.heap.size := ⟨_, rfl⟩
  obtain ⟨z3, hz3⟩ : ∃ z, z = w.heap.size + 1 := ⟨_, rfl⟩
  rw [← hz3] at HB3 ⊢
  rw [← hz2] at HB2 ⊢
  have HZ2 : Hid (z2 = w.heap.size ∧ z3 = w.heap.size + 1) := Lib.hid ⟨hz2, hz3⟩
  have hzB : B ≤ z2 ∧ B ≤ z3 ∧ z2 < z3 := by omega
  clear hz3 hz2 hz hBw
  refine region_plan [qq 0, qq 1, oo 2, oo 3] (fun _ => True) (by kernel_rfl) (by kernel_rfl) trivial ?_
  refine' plan_quiet (s := 9) (A1 := _) [0, 1] [_, _] _ rfl rfl rfl (fun W hW => ?hq1) _ trivial (fun _ => ?hr1)
  case hq1 =>
    try simp only [List.getElem_toArray, List.getElem_cons_zero, List.getElem_cons_succ]
    iterate 2 (go_big_quiet_step (fail))
    refine wpQuiet_nil ?_
    rfl
  case hr1 =>
  refine plan_one rfl fun k1 => ?_
  have hdr : Below w2.heap.size w2 (w2.drew.drewN k1) := below_drewN (Below.refl _ _).drew k1
  have HRa := Lib.hid (HR2.out.fut hdr)
  have HB2a := Lib.hid (HB2.out.fut hdr)
  have HB3a := Lib.hid (HB3.out.fut hdr)
  have HSa := Lib.hid ((Stable.stays w).fut HS2.out hdr)
  clear HR2 HB2 HB3 HS2 hdr
  generalize w2.drew.drewN k1 = Wa at *
  go_wp2_with fail
  refine (qTake_any D B g 32 (by omega) Wa er s HRa.out).mono ?_
  rintro e Wb ⟨v, id, er1, r1, rfl, ⟨hd, hl⟩, HRb, HSb, HT1⟩
  obtain ⟨q, n, c, rfl, hn, hnc, hcm, hr, hp⟩ := hd.open
  obtain rfl : n = 32 := by omega
  have HB2b := Lib.hid (HB2a.out.stays HSb.out (by omega))
  have HB3b := Lib.hid (HB3a.out.stays HSb.out (by omega))
  have HSb' := Lib.hid (HSa.out.trans HSb.out fun k _ hk => hk)
  have HL := Lib.hid hl
  have HROW := Lib.hid hr
  clear hd hn hr hp hl HRa HB2a HB3a HSa HSb
  go_wp2_with fail
  refine planQ_normal (And.intro trivial ?_)
  refine plan_one rfl fun k2 => ?_
  have hdr := below_draws Wb k2
  have HRc := Lib.hid (HRb.out.fut hdr)
  have HB2c := Lib.hid (HB2b.out.fut hdr)
  have HB3c := Lib.hid (HB3b.out.fut hdr)
  have HSc := Lib.hid ((Stable.stays w).fut HSb'.out hdr)
  have HROWc := Lib.hid (HROW.out.fut hdr)
  clear HRb HB2b HB3b HSb' HROW hdr
  generalize Wb.drewN k2 = Wc at *
  have hB3 := HB3c.out
  rw [HYY.out] at hB3
  refine wp_copy8g (o := ⟨some 7, _, _, _, _, _⟩) rfl (.tmp 4) (.tmp 6) 22 22 rfl 5 Try.underlying22 (by kernel_rfl) 32 32 32 c q id z3 0 rfl rfl HL.out HROWc.out (hCells (nulls 32)) 29 hB3 32 rfl (by decide) ?_
  intro Wd hBd hgd hsd
  rw [splice_hash id HL.out] at hBd
  have hst := Stays.of_grown (S := fun k => k = z3) hgd (fun k h => by injection h with h; exact h.symm)
  have HRd := Lib.hid (HRc.out.stays hst (fun k hk => .inr ⟨by have : k = z3 := hk; omega, _, _, (show k = z3 from hk) ▸ HB3c.out, by decide⟩) (by omega))
  have HB2d := Lib.hid (HB2c.out.stays hst (by omega))
  have HSd := Lib.hid (HSc.out.trans hst fun k h1 h2 => by have := HZ2.out; have : k = z3 := h2; omega)
  clear hB3 HRc HB2c HB3c HSc HROWc hst hgd hsd
  refine planQ_normal (And.intro trivial ?_)
  refine plan_end fun k3 => NoPanic.normal ?_
  have hdr := below_draws Wd k3
  have HRe := Lib.hid (HRd.out.fut hdr)
  have HB2e := Lib.hid (HB2d.out.fut hdr)
  have HB3e := Lib.hid (hBd.out.fut hdr)
  have HSe := Lib.hid ((Stable.stays w).fut HSd.out hdr)
  clear HRd HB2d hBd HSd hdr
  generalize Wd.drewN k3 = We at *
  have l3 := HB3e.out.range
  have hbr := Below.refl z2 We
  go_wp2_with (first
    | (with_reducible refine wpList_load_mid (op := ⟨some 8, _, _, _, _, _⟩) ?_ 29 (.tmp 3) ?_ (z3) (0) ?_ ((hCells (id))) _ (l3) Try.underlying29 ?_ ?_ ?_
       · rfl
       · rfl
       · rfl
       · rfl
       · exact (hCells_info (HL.out)))
    | (with_reducible refine wp_store_blk (o := ⟨none, _, _, _, _, _⟩) ?_ 29 (.tmp 2) (.tmp 8) ?_ (z2) 29 (YH) ((hCells (id)).toArray) ?_ ?_ (HB2e.out) ?_ ?_ ?_ (z2) (We) ?_ ?_ ?_
       · rfl
       · rfl
       · rfl
       · rfl
       · exact (hCells_info' (HL.out))
       · exact ((HYS.out).trans (hCells_size (HL.out)).symm)
       · exact (hCells_one _)
       · exact (hbr)
       · exact (Nat.le_refl _)
       intro w3 hB3 hb3 hg3 hs3))
  refine bodyPost_ret (results_cell1 rfl _ _ _ z2 _ (hCells id) _ rfl hB3.out Try.underlying29 rfl (hCells_info HL.out)) rfl ?_
  have hst := Stays.of_grown (S := fun k => k = z2) hg3.out (fun k h => by injection h with h; exact h.symm)
  exact ⟨_, id, er1, r1, rfl, ⟨rfl, HL.out⟩, Lib.hid (HRe.out.stays hst (fun k hk => .inr ⟨by have : k = z2 := hk; omega, _, _, (show k = z2 from hk) ▸ HB2e.out, by decide⟩) (by omega)), Lib.hid (HSe.out.trans hst fun k hk h => by have : k = z2 := h; have := HZ2.out; omega), HT1⟩
end Go.Proofs.Ytndobjlodpkknaa
