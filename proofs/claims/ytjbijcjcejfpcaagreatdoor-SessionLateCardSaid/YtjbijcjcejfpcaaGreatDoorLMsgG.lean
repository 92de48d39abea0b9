/- message.reader: a version's fields, headers, sums, a block: the walks.  -/
import Derived.Test.YtjbijcjcejfpcaaGreatDoorLMsgF
import Derived.Test.YtjbijcjcejfpcaaGreatDoorLGK
import Derived.Test.YtjbijcjcejfpcaaGreatDoorLGH
import Derived.Test.YtjbijcjcejfpcaaGreatDoorLGA
namespace Go.Proofs.YtjbijcjcejfpcaaGreatDoor
open Go Go.RowKit
set_option linter.unusedVariables false
structure VSt (T D B g z : Nat) (w W : World) (er : Int) (s : Bs) (cs : List Value) : Prop where
  ty : T ≠ 41
  rd : MRd T D B g W er s
  ms : Blk W z 41 cs.toArray
  st : Stays (fun k => k = g ∨ k = z) w W
theorem VSt.ne {T D B g z : Nat} {w W : World} {er : Int} {s : Bs} {cs : List Value} (h : VSt T D B g z w W er s cs) : z ≠ g := by
  obtain ⟨hT, ⟨_, hg, _⟩, ms, _⟩ := h
  exact fun e => by rw [e] at ms; exact hT (hg.inj ms).1
theorem VSt.call {T D B g z : Nat} {w W W' : World} {er er' : Int} {s r : Bs} {cs : List Value} (h : VSt T D B g z w W er s cs) (hr : MRd T D B g W' er' r) (hs : Stays (· = g) W W') : VSt T D B g z w W' er' r cs :=
  ⟨h.ty, hr, h.ms.stays hs h.ne, h.st.trans hs fun k _ h => .inl h⟩
theorem VSt.fut {T D B g z : Nat} {w W W' : World} {er : Int} {s : Bs} {cs : List Value} (h : VSt T D B g z w W er s cs) (hb : Below W.heap.size W W') : VSt T D B g z w W' er s cs := h.call (h.rd.fut hb) (Stays.of_below hb (Nat.le_refl _) _)
theorem VSt.put {T D B g z : Nat} {w W W' : World} {er : Int} {s : Bs} {cs cs' : List Value} (h : VSt T D B g z w W er s cs) (hD : D ≤ z) (hm : Blk W' z 41 cs'.toArray) (hs : Stays (· = z) W W') : VSt T D B g z w W' er s cs' :=
  ⟨h.ty, h.rd.stays hs (fun k hk => .inr ⟨(show k = z from hk) ▸ hD, _, _, (show k = z from hk) ▸ h.ms, by decide⟩) (fun e => h.ne e.symm), hm, h.st.trans hs fun k _ h => .inr h⟩
theorem fz1 : fieldsZ 1 = (numZ 4).bind fun nu => (takeZ 68).bind fun _ => (numZ 8).bind fun no => (textM 256).bind fun _ => (takeZ 4).bind fun _ => oneZ.bind fun _ => Pz.ret { noMsg with k := 1, nu := nu.setWidth 32, no := no } := rfl
theorem take_one {s : Bs} {n : Nat} (h : s.length = n) {a r : Bs} {er er' : Int} (h2 : Step (takeZ (min n 1)) er s a er' r) : Step oneZ er s () er' r := by
  have e : takeZ (min n 1) s = .ok (s.take (min n 1), s.drop 1) := by
    unfold takeZ
    rw [if_neg (by omega)]
    congr 2
    rcases Nat.lt_or_ge n 1 with h1 | h1
    · have : s = [] := List.eq_nil_of_length_eq_zero (by omega)
      rw [this]; simp
    · rw [Nat.min_eq_right h1]
  unfold Step at h2 ⊢
  rw [e] at h2
  by_cases he : er = 0
  · rw [if_pos he] at h2 ⊢
    exact ⟨h2.1, rfl, h2.2.2⟩
  · rw [if_neg he] at h2 ⊢
    exact h2
theorem min_one (n : Nat) : min (n : Int) 1 = ((min n 1 : Nat) : Int) := by omega
theorem ZBlk_len : ZBlk.length = 69 := rfl
theorem BlkO.mono {B B' : Nat} {w : World} {b : TBlk} {cs : List Value} (h : BlkO B w b cs) (hB : B' ≤ B) : BlkO B' w b cs := by obtain ⟨v, h1, h2, h3⟩ := h; exact ⟨v, h1, h2, h3.mono (fun _ _ h => h.mono hB) hB⟩
def hdMsg (dv : Value) : List Value := msgCells (.int .i64 6) (u32 0#32) (u64 0#64) noHash noHash (.slice none 0 0) dv (.slice none 0 0) ZBlk
structure HdI (g z b2 b3 : Nat) (w W : World) (xs : List Hdr) (p : Option Addr) (n c : Nat) : Prop where
  x2 : Blk W b2 118 #[.pointer (some ⟨g, 0, none⟩)]
  x3 : Blk W b3 124 #[.pointer (some ⟨z, 0, none⟩)]
  ms : Blk W z 41 (hdMsg (.slice p n c)).toArray
  ro : RowO HdrE 36 68 w.heap.size W (.slice p n c) xs
  st : Stays (fun k => k = g ∨ k = z) w W
theorem HdI.stays {g z b2 b3 n c : Nat} {w W W' : World} {xs : List Hdr} {p : Option Addr} (h : HdI g z b2 b3 w W xs p n c) (hn : b2 ≠ g ∧ b3 ≠ g ∧ z ≠ g) (hg : g < w.heap.size) (hs : Stays (· = g) W W') : HdI g z b2 b3 w W' xs p n c := by
  obtain ⟨x2, x3, m1, m2, st⟩ := h
  exact ⟨x2.stays hs hn.1, x3.stays hs hn.2.1, m1.stays hs hn.2.2, m2.sep (hdrE_keeps _) hs (Sep.low fun k hk => by have : k = g := hk; omega), st.trans hs fun k _ h => .inl h⟩
theorem HdI.fut {g z b2 b3 n c : Nat} {w W W' : World} {xs : List Hdr} {p : Option Addr} (h : HdI g z b2 b3 w W xs p n c) (hb : Below W.heap.size W W') : HdI g z b2 b3 w W' xs p n c := by
  obtain ⟨x2, x3, m1, m2, st⟩ := h
  have hs : Stays (fun _ => False) W W' := Stays.of_below hb (Nat.le_refl _) _
  exact ⟨x2.fut hb, x3.fut hb, m1.fut hb, m2.sep (hdrE_keeps _) hs (fun _ h => h.elim), st.trans hs fun _ _ h => h.elim⟩
theorem HdI.ne {D B g z b2 b3 n c : Nat} {w W : World} {xs : List Hdr} {p : Option Addr} {er : Int} {s : Bs} (h : HdI g z b2 b3 w W xs p n c) (hr : MRd 122 D B g W er s) : b2 ≠ g ∧ b3 ≠ g ∧ z ≠ g := by
  obtain ⟨_, hg, _⟩ := hr
  obtain ⟨x2, x3, ms, _, _⟩ := h
  refine ⟨fun e => ?_, fun e => ?_, fun e => ?_⟩
  · rw [e] at x2; exact absurd (x2.inj hg).1 (by decide)
  · rw [e] at x3; exact absurd (x3.inj hg).1 (by decide)
  · rw [e] at ms; exact absurd (ms.inj hg).1 (by decide)
set_option maxRecDepth 100000 in
set_option maxHeartbeats 8000000 in
theorem version_any (D B g z : Nat) (hD : D ≤ B ∧ D ≤ z) (w : World) (s : Bs) (hr : MRd 122 D B g w 0 s) (hm : Blk w z 41 (msgZ 1).toArray) :
    Calls Tryz.prog 77 #[.pointer (some ⟨g, 0, none⟩), .pointer (some ⟨z, 0, none⟩)] w (FldPost D B g z w (fieldsZ 1) s) := by
  have HS0 : Hid (VSt 122 D B g z w w 0 s (msgCells (.int .i64 1) (u32 0#32) (u64 0#64) noHash noHash (.slice none 0 0) (.slice none 0 0) (.slice none 0 0) ZBlk)) := Lib.hid ⟨by decide, hr, hm, Stays.refl _ _⟩
  clear hr hm
  go_enter Tryz.func77, Tryz.ntmps77
  go_wp2_with fail
  refine (mNum_any D B g 4 (by omega) w 0 s HS0.out.rd).mono ?_
  rintro e W1 ⟨vv1, a1, er1, r1, rfl, rfl, HR1, HT1a, HT1⟩
  have HS1 := Lib.hid (HS0.out.call HR1.out HT1a.out)
  clear HS0 HR1
  have hcut := cut64_32 a1
  have MA := HS1.out.ms.msg noHash_len noHash_len
  have cz := MA.c1
  have fz := HS1.out.ms.frozen 1
  clear MA
  go_upto_region 1 with fail
  have hstz := Stays.set W1 z 1 (.int .u32 (iv32 (a1.setWidth 32)))
  have hsp : ∀ Ts, 41 ∉ Ts → Sep B Ts W1 (· = z) := fun Ts hT => sep_one HS1.out.ms hT
  have HS3 : Hid (VSt 122 D B g z w (W1.setCell ⟨z, 1, none⟩ (.int .u32 (iv32 (a1.setWidth 32)))) er1 r1 (msgCells (.int .i64 1) (.int .u32 (iv32 (a1.setWidth 32))) (u64 0#64) noHash noHash (.slice none 0 0) (.slice none 0 0) (.slice none 0 0) ZBlk)) := Lib.hid (HS1.out.put hD.2 (by have h := HS1.out.ms.set 1 (.int .u32 (iv32 (a1.setWidth 32))); rw [msg_set1 _ _ _ _ _ _ _ _ _] at h; exact h) hstz)
  clear HS1 cz fz hstz hsp
  generalize W1.setCell ⟨z, 1, none⟩ (.int .u32 (iv32 (a1.setWidth 32))) = W3 at *
  clear hcut
  go_wp2_with fail
  refine (mTake_any D B g 68 (by omega) W3 er1 r1 HS3.out.rd).mono ?_
  rintro e W5 ⟨vv5, a5, er5, r5, rfl, ⟨hd5, hl5⟩, HR5, HT5a, HT5⟩
  have HS5 := Lib.hid (HS3.out.call HR5.out HT5a.out)
  clear HS3 HR5
  clear hd5 hl5
  go_upto_region 2 with fail
  go_wp2_with fail
  refine (mNum_any D B g 8 (by omega) W5 er5 r5 HS5.out.rd).mono ?_
  rintro e W7 ⟨vv7, a7, er7, r7, rfl, rfl, HR7, HT7a, HT7⟩
  have HS7 := Lib.hid (HS5.out.call HR7.out HT7a.out)
  clear HS5 HR7
  have MA := HS7.out.ms.msg noHash_len noHash_len
  have cz := MA.c2
  have fz := HS7.out.ms.frozen 2
  clear MA
  go_upto_region 3 with fail
  have hstz := Stays.set W7 z 2 (.int .u64 (iv64 a7))
  have hsp : ∀ Ts, 41 ∉ Ts → Sep B Ts W7 (· = z) := fun Ts hT => sep_one HS7.out.ms hT
  have HS9 : Hid (VSt 122 D B g z w (W7.setCell ⟨z, 2, none⟩ (.int .u64 (iv64 a7))) er7 r7 (msgCells (.int .i64 1) (.int .u32 (iv32 (a1.setWidth 32))) (.int .u64 (iv64 a7)) noHash noHash (.slice none 0 0) (.slice none 0 0) (.slice none 0 0) ZBlk)) := Lib.hid (HS7.out.put hD.2 (by have h := HS7.out.ms.set 2 (.int .u64 (iv64 a7)); rw [msg_set2 _ _ _ _ _ _ _ _ _] at h; exact h) hstz)
  clear HS7 cz fz hstz hsp
  generalize W7.setCell ⟨z, 2, none⟩ (.int .u64 (iv64 a7)) = W9 at *
  go_wp2_with fail
  refine (mText_any D B g 256 (by omega) W9 er7 r7 HS9.out.rd).mono ?_
  rintro e W11 ⟨vv11, a11, er11, r11, rfl, ho11, HR11, HT11a, HT11⟩
  have HS11 := Lib.hid (HS9.out.call HR11.out HT11a.out)
  clear HS9 HR11
  clear ho11
  go_upto_region 4 with fail
  go_wp2_with fail
  refine (mTake_any D B g 4 (by omega) W11 er11 r11 HS11.out.rd).mono ?_
  rintro e W13 ⟨vv13, a13, er13, r13, rfl, ⟨hd13, hl13⟩, HR13, HT13a, HT13⟩
  have HS13 := Lib.hid (HS11.out.call HR13.out HT13a.out)
  clear HS11 HR13
  clear hd13 hl13
  go_upto_region 5 with fail
  obtain ⟨vr, x1, x2, x3, x4, x5⟩ := HS13.out.rd
  obtain ⟨pr, nr, cr, rfl, hnr, _⟩ := x2.open
  have HNR := Lib.hid hnr
  have X1 := Lib.hid x1
  clear x1 x2 x3 x4 x5 hnr
  refine region_plan_tail [qq 0, qq 1, qq 2, qq 3, qq 4, qq 5, qq 6, qq 7, qq 8, qq 9] 10 (fun W => Blk W g 122 #[.slice pr nr cr, .int .i64 er13]) (by kernel_rfl) (by kernel_rfl) (X1.out.fut (below_draws W13 1)) ?_
  refine' plan_quiet (s := 36) (A1 := _) (r := []) [0, 1, 2, 3, 4, 5, 6, 7, 8, 9] [_, _, _, _, _, _, _, _, _, _] _ rfl rfl rfl (fun W hW => ?hq15) _ (X1.out.fut (below_draws W13 1)) (fun _ => ?hr15)
  case hq15 =>
    have e2 : ∀ k, (W.drewN k).cell? ⟨g, 0, none⟩ = some (.slice pr nr cr) := fun k => by have := hW.cell 0; simpa using this
    simp only [List.getElem_toArray, List.getElem_cons_zero, List.getElem_cons_succ]
    iterate 10 (go_big_quiet_step (fail))
    refine wpQuiet_nil ?_
    rfl
  case hr15 =>
  clear X1
  rw [min_one]
  refine plan_end fun k16 => HeadQ.normal ?_
  have hdr : Below W13.heap.size W13 (W13.drew.drewN k16) := below_drewN (Below.refl _ _).drew k16
  have hstd : Stays (fun _ => False) W13 (W13.drew.drewN k16) := Stays.of_below hdr (Nat.le_refl _) _
  have HS17 := Lib.hid (HS13.out.fut hdr)
  clear HS13 hdr hstd
  generalize W13.drew.drewN k16 = W17 at *
  go_wp2_with fail
  refine (mTake_any D B g (min nr 1) (by omega) W17 er13 r13 HS17.out.rd).mono ?_
  rintro e W19 ⟨vv19, a19, er19, r19, rfl, ⟨hd19, hl19⟩, HR19, HT19a, HT19⟩
  have HS19 := Lib.hid (HS17.out.call HR19.out HT19a.out)
  clear HS17 HR19
  clear hd19 hl19
  have HO := Lib.hid (take_one HNR.out HT19.out)
  clear HT19
  go_wp2_with fail
  first | go_end0 | refine bodyPost_ret (results_none rfl _ _ _) rfl ?_
  exact ⟨rfl, { noMsg with k := 1, nu := a1.setWidth 32, no := a7 }, _, _, _, Lib.hid HS19.out.rd, Lib.hid HS19.out.ms, Lib.hid (⟨_, _, _, _, rfl, noHash_len, noHash_len, RowO.nil _ _ _ _ _, RowO.nil _ _ _ _ _, Own8.nil _ _, ⟨.slice none 0 0, rfl, noHdr_ok, RowO.nil _ _ _ _ _⟩⟩), Lib.hid HS19.out.st, Lib.hid (by rw [fz1]; exact (HT1.out).bind ((HT5.out).bind ((HT7.out).bind ((HT11.out).bind ((HT13.out).bind ((HO.out).bind (Step.ret _ _ _)))))))⟩
set_option maxRecDepth 100000 in
set_option maxHeartbeats 8000000 in
theorem fields_k1 (D B g z : Nat) (hD : D ≤ B ∧ D ≤ z) (hB : g < B ∧ z < B) (w : World) (s : Bs) (hr : MRd 122 D B g w 0 s) (hm : Blk w z 41 (msgZ 1).toArray) :
    Calls Tryz.prog 47 #[.pointer (some ⟨g, 0, none⟩), .pointer (some ⟨z, 0, none⟩)] w (FldPost D B g z w (fieldsZ 1) s) := by
  obtain ⟨b2, h2⟩ : ∃ b, b = w.heap.size := ⟨_, rfl⟩
  obtain ⟨V1, hV1⟩ : ∃ W, W = w.alloc (.cells #[.pointer (some ⟨g, 0, none⟩)] 118) := ⟨_, rfl⟩
  obtain ⟨V2, hV2⟩ : ∃ W, W = V1.alloc (.cells #[.pointer (some ⟨z, 0, none⟩)] 124) := ⟨_, rfl⟩
  have z1 : V1.heap.size = b2 + 1 := by rw [hV1, World.size_alloc, h2]
  have k1 : Below w.heap.size w V1 := by rw [hV1]; exact below_new w _
  have k2 : Below V1.heap.size V1 V2 := by rw [hV2]; exact below_new V1 _
  have k02 := below_fut k1 k2 (Nat.le_refl _)
  obtain ⟨b3, h3⟩ : ∃ b, b = b2 + 1 := ⟨_, rfl⟩
  have hcall := version_any D B g z hD V2 s (hr.fut k02) (hm.fut k02)
  have HST : Hid (Stays (fun k => k = g ∨ k = z) w V2) := Lib.hid (Stays.of_below k02 (Nat.le_refl _) _)
  have c3 : V2.cell? ⟨b3, 0, none⟩ = some (.pointer (some ⟨z, 0, none⟩)) := by have := (show Blk V2 b3 124 #[.pointer (some ⟨z, 0, none⟩)] by rw [hV2, h3, ← z1]; exact Blk.new V1 _ _).cell 0; simpa using this
  have c2 : V2.cell? ⟨b2, 0, none⟩ = some (.pointer (some ⟨g, 0, none⟩)) := by have := ((show Blk V1 b2 118 #[.pointer (some ⟨g, 0, none⟩)] by rw [hV1, h2]; exact Blk.new w _ _).fut k2).cell 0; simpa using this
  have cz : V2.cell? ⟨z, 0, none⟩ = some (.int .i64 1) := by have := (hm.fut k02).cell 0; rw [List.getElem?_toArray] at this; exact this
  clear k1 k2 k02 z1 hr hm
  go_enter Tryz.func47, Tryz.ntmps47
  go_upto_region 1 with fail
  rw [← hV1, ← hV2, ← h2, ← h3]
  clear hV1 hV2 h2 h3
  go_wp2_with fail
  refine hcall.mono ?_
  rintro e w2 ⟨rfl, m, cs, er, r, h1, h2, h3, h4, h5⟩
  clear hcall c2 c3 cz
  go_wp2_with fail
  first | go_end0 | refine bodyPost_ret (results_none rfl _ _ _) rfl ?_
  exact ⟨rfl, m, cs, er, r, h1, h2, h3, Lib.hid (HST.out.trans h4.out fun _ _ h => h), h5⟩
end Go.Proofs.YtjbijcjcejfpcaaGreatDoor
