/- message.reader: fields, by kinds: the walks.  -/
import Derived.Test.YtjbijcjcejfpcaaGreatDoorLMsgH
import Derived.Test.YtjbijcjcejfpcaaGreatDoorLStoreIn
import Derived.Test.YtjbijcjcejfpcaaGreatDoorLMsgC
namespace Go.Proofs.YtjbijcjcejfpcaaGreatDoor
open Go Go.RowKit
set_option linter.unusedVariables false
theorem RowO.opens {α : Type} {E : World → α → List Value → Prop} {T N B : Nat} {w : World} {v : Value} {xs : List α} (h : RowO E T N B w v xs) : ∃ p n c, v = .slice p n c := by
  obtain ⟨css, _, h2, _⟩ := h
  obtain ⟨p, c, e, _⟩ := ownsRow_open h2
  exact ⟨_, _, _, e⟩
theorem msg_set1 (k nu no : Value) (pv st : Bs) (hv dv bv : Value) (bc : List Value) (x : Value) : (msgCells k nu no pv st hv dv bv bc).toArray.setIfInBounds 1 x = (msgCells k x no pv st hv dv bv bc).toArray := rfl
theorem msg_set2 (k nu no : Value) (pv st : Bs) (hv dv bv : Value) (bc : List Value) (x : Value) : (msgCells k nu no pv st hv dv bv bc).toArray.setIfInBounds 2 x = (msgCells k nu x pv st hv dv bv bc).toArray := rfl
theorem msg_set67 (k nu no : Value) {pv st : Bs} (hv dv bv : Value) (bc : List Value) (h : pv.length = 32) (h1 : st.length = 32) (x : Value) : (msgCells k nu no pv st hv dv bv bc).toArray.setIfInBounds 67 x = (msgCells k nu no pv st x dv bv bc).toArray := by
  have e : ∀ hv, msgCells k nu no pv st hv dv bv bc = ([k, nu, no] ++ (hCells pv ++ hCells st)) ++ hv :: (dv :: bv :: bc) := fun hv => by unfold msgCells; simp
  have := set_midL ([k, nu, no] ++ (hCells pv ++ hCells st)) (dv :: bv :: bc) hv x
  rw [show ([k, nu, no] ++ (hCells pv ++ hCells st)).length = 67 by simp [hCells, h, h1]] at this
  rw [e hv, e x]
  exact this
theorem noHash_len : noHash.length = 32 := rfl
theorem msgCells_size (k nu no : Value) {pv st : Bs} (hv dv bv : Value) {bc : List Value} (h1 : pv.length = 32) (h2 : st.length = 32) (h3 : bc.length = 69) : (msgCells k nu no pv st hv dv bv bc).toArray.size = 139 := by rw [List.size_toArray]; exact msgCells_len _ _ _ _ _ _ h1 h2 h3
def msgZ (k : Int) : List Value := msgCells (.int .i64 k) (u32 0#32) (u64 0#64) noHash noHash (.slice none 0 0) (.slice none 0 0) (.slice none 0 0) ZBlk
structure FSt (D B g z b2 b3 : Nat) (w W : World) (er : Int) (s : Bs) (cs : List Value) : Prop where
  rd : MRd 122 D B g W er s
  x2 : Blk W b2 118 #[.pointer (some ⟨g, 0, none⟩)]
  x3 : Blk W b3 124 #[.pointer (some ⟨z, 0, none⟩)]
  ms : Blk W z 41 cs.toArray
  st : Stays (fun k => k = g ∨ k = z) w W
theorem FSt.ne {D B g z b2 b3 : Nat} {w W : World} {er : Int} {s : Bs} {cs : List Value} (h : FSt D B g z b2 b3 w W er s cs) : b2 ≠ g ∧ b3 ≠ g ∧ z ≠ g ∧ b2 ≠ z ∧ b3 ≠ z := by
  obtain ⟨⟨_, hg, _⟩, x2, x3, ms, _⟩ := h
  refine ⟨fun e => ?_, fun e => ?_, fun e => ?_, fun e => ?_, fun e => ?_⟩
  · rw [e] at x2; exact absurd (x2.inj hg).1 (by decide)
  · rw [e] at x3; exact absurd (x3.inj hg).1 (by decide)
  · rw [e] at ms; exact absurd (ms.inj hg).1 (by decide)
  · rw [e] at x2; exact absurd (x2.inj ms).1 (by decide)
  · rw [e] at x3; exact absurd (x3.inj ms).1 (by decide)
theorem FSt.call {D B g z b2 b3 : Nat} {w W W' : World} {er er' : Int} {s r : Bs} {cs : List Value} (h : FSt D B g z b2 b3 w W er s cs) (hr : MRd 122 D B g W' er' r) (hs : Stays (· = g) W W') : FSt D B g z b2 b3 w W' er' r cs := by
  obtain ⟨n1, n2, n3, _, _⟩ := h.ne
  exact ⟨hr, h.x2.stays hs n1, h.x3.stays hs n2, h.ms.stays hs n3, h.st.trans hs fun k _ h => .inl h⟩
theorem FSt.fut {D B g z b2 b3 : Nat} {w W W' : World} {er : Int} {s : Bs} {cs : List Value} (h : FSt D B g z b2 b3 w W er s cs) (hb : Below W.heap.size W W') : FSt D B g z b2 b3 w W' er s cs := h.call (h.rd.fut hb) (Stays.of_below hb (Nat.le_refl _) _)
theorem FSt.put {D B g z b2 b3 : Nat} {w W W' : World} {er : Int} {s : Bs} {cs cs' : List Value} (h : FSt D B g z b2 b3 w W er s cs) (hD : D ≤ z) (hm : Blk W' z 41 cs'.toArray) (hs : Stays (· = z) W W') : FSt D B g z b2 b3 w W' er s cs' := by
  obtain ⟨_, _, n3, n4, n5⟩ := h.ne
  exact ⟨h.rd.stays hs (fun k hk => .inr ⟨(show k = z from hk) ▸ hD, _, _, (show k = z from hk) ▸ h.ms, by decide⟩) (fun e => n3 e.symm), h.x2.stays hs n4, h.x3.stays hs n5, hm, h.st.trans hs fun k _ h => .inr h⟩
def FldPost (D B g z : Nat) (w : World) (p : Pz TMsg) (s : Bs) (e : Ending) (w' : World) : Prop := e = .returned (.tuple #[]) ∧ ∃ m cs er r, Hid (MRd 122 D B g w' er r) ∧ Hid (Blk w' z 41 cs.toArray) ∧ Hid (MsgO B w' m cs) ∧ Hid (Stays (fun k => k = g ∨ k = z) w w') ∧ Hid (Step p 0 s m er r)
set_option maxRecDepth 100000 in
set_option maxHeartbeats 8000000 in
theorem fields_k2 (D B g z : Nat) (hD : D ≤ B ∧ D ≤ z) (hB : g < B ∧ z < B) (w : World) (s : Bs) (hr : MRd 122 D B g w 0 s) (hm : Blk w z 41 (msgZ 2).toArray) :
    Calls Tryz.prog 47 #[.pointer (some ⟨g, 0, none⟩), .pointer (some ⟨z, 0, none⟩)] w (FldPost D B g z w (fieldsZ 2) s) := by
  obtain ⟨b2, h2⟩ : ∃ b, b = w.heap.size := ⟨_, rfl⟩
  obtain ⟨V1, hV1⟩ : ∃ W, W = w.alloc (.cells #[.pointer (some ⟨g, 0, none⟩)] 118) := ⟨_, rfl⟩
  obtain ⟨V2, hV2⟩ : ∃ W, W = V1.alloc (.cells #[.pointer (some ⟨z, 0, none⟩)] 124) := ⟨_, rfl⟩
  have z1 : V1.heap.size = b2 + 1 := by rw [hV1, World.size_alloc, h2]
  have k1 : Below w.heap.size w V1 := by rw [hV1]; exact below_new w _
  have k2 : Below V1.heap.size V1 V2 := by rw [hV2]; exact below_new V1 _
  have k02 := below_fut k1 k2 (Nat.le_refl _)
  obtain ⟨b3, h3⟩ : ∃ b, b = b2 + 1 := ⟨_, rfl⟩
  have HS0 : Hid (FSt D B g z b2 b3 w V2 0 s (msgCells (.int .i64 2) (u32 0#32) (u64 0#64) noHash noHash (.slice none 0 0) (.slice none 0 0) (.slice none 0 0) ZBlk)) := Lib.hid ⟨hr.fut k02, (show Blk V1 b2 _ _ by rw [hV1, h2]; exact Blk.new w _ _).fut k2, (by rw [hV2, h3, ← z1]; exact Blk.new V1 _ _), hm.fut k02, Stays.of_below k02 (Nat.le_refl _) _⟩
  have c3 : V2.cell? ⟨b3, 0, none⟩ = some (.pointer (some ⟨z, 0, none⟩)) := by have := HS0.out.x3.cell 0; simpa using this
  have cz : V2.cell? ⟨z, 0, none⟩ = some (.int .i64 2) := by have := HS0.out.ms.cell 0; rw [List.getElem?_toArray] at this; exact this
  have hzg : z ≠ g := HS0.out.ne.2.2.1
  clear k1 k2 k02 z1 hr hm
  go_enter Tryz.func47, Tryz.ntmps47
  go_upto_region 1 with fail
  rw [← hV1, ← hV2, ← h2, ← h3]
  clear hV1 hV2 h2 h3
  go_upto_region 2 with fail
  clear c3 cz
  go_wp2_with fail
  first | go_end0 | refine bodyPost_ret (results_none rfl _ _ _) rfl ?_
  exact ⟨rfl, { noMsg with k := 2 }, _, _, _, Lib.hid HS0.out.rd, Lib.hid HS0.out.ms, Lib.hid (⟨_, _, _, _, rfl, noHash_len, noHash_len, RowO.nil _ _ _ _ _, RowO.nil _ _ _ _ _, Own8.nil _ _, ⟨.slice none 0 0, rfl, noHdr_ok, RowO.nil _ _ _ _ _⟩⟩), Lib.hid HS0.out.st, Lib.hid (by rw [show fieldsZ 2 = Pz.ret { noMsg with k := 2 } from rfl]; exact Step.ret _ _ _)⟩
set_option maxRecDepth 100000 in
set_option maxHeartbeats 8000000 in
theorem fields_k3 (D B g z : Nat) (hD : D ≤ B ∧ D ≤ z) (hB : g < B ∧ z < B) (w : World) (s : Bs) (hr : MRd 122 D B g w 0 s) (hm : Blk w z 41 (msgZ 3).toArray) :
    Calls Tryz.prog 47 #[.pointer (some ⟨g, 0, none⟩), .pointer (some ⟨z, 0, none⟩)] w (FldPost D B g z w (fieldsZ 3) s) := by
  obtain ⟨b2, h2⟩ : ∃ b, b = w.heap.size := ⟨_, rfl⟩
  obtain ⟨V1, hV1⟩ : ∃ W, W = w.alloc (.cells #[.pointer (some ⟨g, 0, none⟩)] 118) := ⟨_, rfl⟩
  obtain ⟨V2, hV2⟩ : ∃ W, W = V1.alloc (.cells #[.pointer (some ⟨z, 0, none⟩)] 124) := ⟨_, rfl⟩
  have z1 : V1.heap.size = b2 + 1 := by rw [hV1, World.size_alloc, h2]
  have k1 : Below w.heap.size w V1 := by rw [hV1]; exact below_new w _
  have k2 : Below V1.heap.size V1 V2 := by rw [hV2]; exact below_new V1 _
  have k02 := below_fut k1 k2 (Nat.le_refl _)
  obtain ⟨b3, h3⟩ : ∃ b, b = b2 + 1 := ⟨_, rfl⟩
  have HS0 : Hid (FSt D B g z b2 b3 w V2 0 s (msgCells (.int .i64 3) (u32 0#32) (u64 0#64) noHash noHash (.slice none 0 0) (.slice none 0 0) (.slice none 0 0) ZBlk)) := Lib.hid ⟨hr.fut k02, (show Blk V1 b2 _ _ by rw [hV1, h2]; exact Blk.new w _ _).fut k2, (by rw [hV2, h3, ← z1]; exact Blk.new V1 _ _), hm.fut k02, Stays.of_below k02 (Nat.le_refl _) _⟩
  have c3 : V2.cell? ⟨b3, 0, none⟩ = some (.pointer (some ⟨z, 0, none⟩)) := by have := HS0.out.x3.cell 0; simpa using this
  have cz : V2.cell? ⟨z, 0, none⟩ = some (.int .i64 3) := by have := HS0.out.ms.cell 0; rw [List.getElem?_toArray] at this; exact this
  have hzg : z ≠ g := HS0.out.ne.2.2.1
  clear k1 k2 k02 z1 hr hm
  go_enter Tryz.func47, Tryz.ntmps47
  go_upto_region 1 with fail
  rw [← hV1, ← hV2, ← h2, ← h3]
  clear hV1 hV2 h2 h3
  go_upto_region 2 with fail
  clear c3 cz
  go_upto_region 6 with fail
  refine region_plan_tail [qq 0, qq 1, oo 2, qq 3, qq 4] 5 (fun W => Blk W b2 118 #[.pointer (some ⟨g, 0, none⟩)] ∧ Blk W b3 124 #[.pointer (some ⟨z, 0, none⟩)]) (by kernel_rfl) (by kernel_rfl) ⟨HS0.out.x2.fut (below_draws V2 1), HS0.out.x3.fut (below_draws V2 1)⟩ ?_
  refine' plan_quiet (s := 127) (A1 := _) [0, 1] [_, _] _ rfl rfl rfl (fun W hW => ?hqa1) _ ⟨HS0.out.x2.fut (below_draws V2 1), HS0.out.x3.fut (below_draws V2 1)⟩ (fun _ => ?hra1)
  case hqa1 =>
    have e2 : ∀ k, (W.drewN k).cell? ⟨b2, 0, none⟩ = some (.pointer (some ⟨g, 0, none⟩)) := fun k => by have := hW.1.cell 0; simpa using this
    have e3 : ∀ k, (W.drewN k).cell? ⟨b3, 0, none⟩ = some (.pointer (some ⟨z, 0, none⟩)) := fun k => by have := hW.2.cell 0; simpa using this
    simp only [List.getElem_toArray, List.getElem_cons_zero, List.getElem_cons_succ]
    iterate 2 (go_big_quiet_step (fail))
    refine wpQuiet_nil ?_
    rfl
  case hra1 =>
  refine plan_one rfl fun k2 => ?_
  have hdr : Below V2.heap.size V2 (V2.drew.drewN k2) := below_drewN (Below.refl _ _).drew k2
  have hstd : Stays (fun _ => False) V2 (V2.drew.drewN k2) := Stays.of_below hdr (Nat.le_refl _) _
  have HS3 := Lib.hid (HS0.out.fut hdr)
  clear HS0 hdr hstd
  generalize V2.drew.drewN k2 = W3 at *
  go_wp2_with fail
  refine (mNum_any D B g 8 (by omega) W3 0 s HS3.out.rd).mono ?_
  rintro e W5 ⟨vv5, a5, er5, r5, rfl, rfl, HR5, HT5a, HT5⟩
  have HS5 := Lib.hid (HS3.out.call HR5.out HT5a.out)
  clear HS3 HR5
  go_wp2_with fail
  refine planQ_normal (And.intro ⟨HS5.out.x2, HS5.out.x3⟩ ?_)
  refine' plan_quiet (s := 127) (A1 := _) (r := []) [3, 4] [_, _] _ rfl rfl rfl (fun W hW => ?hqb1) _ ⟨HS5.out.x2, HS5.out.x3⟩ (fun _ => ?hrb1)
  case hqb1 =>
    simp only [List.getElem_toArray, List.getElem_cons_zero, List.getElem_cons_succ]
    iterate 2 (go_big_quiet_step (fail))
    refine wpQuiet_nil ?_
    rfl
  case hrb1 =>
  refine plan_end fun k7 => HeadQ.normal ?_
  have hdr : Below W5.heap.size W5 (W5.drewN k7) := below_draws W5 k7
  have hstd : Stays (fun _ => False) W5 (W5.drewN k7) := Stays.of_below hdr (Nat.le_refl _) _
  have HS8 := Lib.hid (HS5.out.fut hdr)
  clear HS5 hdr hstd
  generalize W5.drewN k7 = W8 at *
  have MA := HS8.out.ms.msg noHash_len noHash_len
  have cz := MA.c2
  have fz := HS8.out.ms.frozen 2
  clear MA
  go_wp2_with fail
  have hstz := Stays.set W8 z 2 (.int .u64 (iv64 a5))
  have hsp : ∀ Ts, 41 ∉ Ts → Sep B Ts W8 (· = z) := fun Ts hT => sep_one HS8.out.ms hT
  have HS10 : Hid (FSt D B g z b2 b3 w (W8.setCell ⟨z, 2, none⟩ (.int .u64 (iv64 a5))) er5 r5 (msgCells (.int .i64 3) (u32 0#32) (.int .u64 (iv64 a5)) noHash noHash (.slice none 0 0) (.slice none 0 0) (.slice none 0 0) ZBlk)) := Lib.hid (HS8.out.put hD.2 (by have h := HS8.out.ms.set 2 (.int .u64 (iv64 a5)); rw [msg_set2 _ _ _ _ _ _ _ _ _] at h; exact h) hstz)
  clear HS8 cz fz hstz hsp
  generalize W8.setCell ⟨z, 2, none⟩ (.int .u64 (iv64 a5)) = W10 at *
  first | go_end0 | refine bodyPost_ret (results_none rfl _ _ _) rfl ?_
  exact ⟨rfl, { noMsg with k := 3, no := a5 }, _, _, _, Lib.hid HS10.out.rd, Lib.hid HS10.out.ms, Lib.hid (⟨_, _, _, _, rfl, noHash_len, noHash_len, RowO.nil _ _ _ _ _, RowO.nil _ _ _ _ _, Own8.nil _ _, ⟨.slice none 0 0, rfl, noHdr_ok, RowO.nil _ _ _ _ _⟩⟩), Lib.hid HS10.out.st, Lib.hid (by rw [show fieldsZ 3 = (numZ 8).bind fun no => Pz.ret { noMsg with k := 3, no := no } from rfl]; exact (HT5.out).bind (Step.ret _ _ _))⟩
set_option maxRecDepth 100000 in
set_option maxHeartbeats 8000000 in
theorem fields_k11 (D B g z : Nat) (hD : D ≤ B ∧ D ≤ z) (hB : g < B ∧ z < B) (w : World) (s : Bs) (hr : MRd 122 D B g w 0 s) (hm : Blk w z 41 (msgZ 11).toArray) :
    Calls Tryz.prog 47 #[.pointer (some ⟨g, 0, none⟩), .pointer (some ⟨z, 0, none⟩)] w (FldPost D B g z w (fieldsZ 11) s) := by
  obtain ⟨b2, h2⟩ : ∃ b, b = w.heap.size := ⟨_, rfl⟩
  obtain ⟨V1, hV1⟩ : ∃ W, W = w.alloc (.cells #[.pointer (some ⟨g, 0, none⟩)] 118) := ⟨_, rfl⟩
  obtain ⟨V2, hV2⟩ : ∃ W, W = V1.alloc (.cells #[.pointer (some ⟨z, 0, none⟩)] 124) := ⟨_, rfl⟩
  have z1 : V1.heap.size = b2 + 1 := by rw [hV1, World.size_alloc, h2]
  have k1 : Below w.heap.size w V1 := by rw [hV1]; exact below_new w _
  have k2 : Below V1.heap.size V1 V2 := by rw [hV2]; exact below_new V1 _
  have k02 := below_fut k1 k2 (Nat.le_refl _)
  obtain ⟨b3, h3⟩ : ∃ b, b = b2 + 1 := ⟨_, rfl⟩
  have HS0 : Hid (FSt D B g z b2 b3 w V2 0 s (msgCells (.int .i64 11) (u32 0#32) (u64 0#64) noHash noHash (.slice none 0 0) (.slice none 0 0) (.slice none 0 0) ZBlk)) := Lib.hid ⟨hr.fut k02, (show Blk V1 b2 _ _ by rw [hV1, h2]; exact Blk.new w _ _).fut k2, (by rw [hV2, h3, ← z1]; exact Blk.new V1 _ _), hm.fut k02, Stays.of_below k02 (Nat.le_refl _) _⟩
  have c3 : V2.cell? ⟨b3, 0, none⟩ = some (.pointer (some ⟨z, 0, none⟩)) := by have := HS0.out.x3.cell 0; simpa using this
  have cz : V2.cell? ⟨z, 0, none⟩ = some (.int .i64 11) := by have := HS0.out.ms.cell 0; rw [List.getElem?_toArray] at this; exact this
  have hzg : z ≠ g := HS0.out.ne.2.2.1
  clear k1 k2 k02 z1 hr hm
  go_enter Tryz.func47, Tryz.ntmps47
  go_upto_region 1 with fail
  rw [← hV1, ← hV2, ← h2, ← h3]
  clear hV1 hV2 h2 h3
  go_upto_region 2 with fail
  clear c3 cz
  go_upto_region 28 with fail
  refine region_plan_tail [qq 0, qq 1, oo 2, oo 3, qq 4, qq 5] 6 (fun W => Blk W b2 118 #[.pointer (some ⟨g, 0, none⟩)] ∧ Blk W b3 124 #[.pointer (some ⟨z, 0, none⟩)]) (by kernel_rfl) (by kernel_rfl) ⟨HS0.out.x2.fut (below_draws V2 1), HS0.out.x3.fut (below_draws V2 1)⟩ ?_
  refine' plan_quiet (s := 127) (A1 := _) [0, 1] [_, _] _ rfl rfl rfl (fun W hW => ?hqa134) _ ⟨HS0.out.x2.fut (below_draws V2 1), HS0.out.x3.fut (below_draws V2 1)⟩ (fun _ => ?hra134)
  case hqa134 =>
    have e2 : ∀ k, (W.drewN k).cell? ⟨b2, 0, none⟩ = some (.pointer (some ⟨g, 0, none⟩)) := fun k => by have := hW.1.cell 0; simpa using this
    have e3 : ∀ k, (W.drewN k).cell? ⟨b3, 0, none⟩ = some (.pointer (some ⟨z, 0, none⟩)) := fun k => by have := hW.2.cell 0; simpa using this
    simp only [List.getElem_toArray, List.getElem_cons_zero, List.getElem_cons_succ]
    iterate 2 (go_big_quiet_step (fail))
    refine wpQuiet_nil ?_
    rfl
  case hra134 =>
  refine plan_one rfl fun k135 => ?_
  have hdr : Below V2.heap.size V2 (V2.drew.drewN k135) := below_drewN (Below.refl _ _).drew k135
  have hstd : Stays (fun _ => False) V2 (V2.drew.drewN k135) := Stays.of_below hdr (Nat.le_refl _) _
  have HS136 := Lib.hid (HS0.out.fut hdr)
  clear HS0 hdr hstd
  generalize V2.drew.drewN k135 = W136 at *
  go_wp2_with fail
  refine (want_any W136).mono ?_
  rintro e W138 ⟨vw138, rfl, how138, hbw138⟩
  obtain ⟨pw138, nw138, cw138, rfl, hnw138, _⟩ := how138.open
  have HA138 := Lib.hid (AheadB.own how138)
  have HS138 := Lib.hid (HS136.out.fut hbw138)
  clear HS136 hbw138 how138
  go_wp2_with fail
  refine planQ_normal (And.intro ⟨HS138.out.x2, HS138.out.x3⟩ ?_)
  refine plan_one rfl fun k139 => ?_
  have HA138b := Lib.hid (HA138.out.fut (below_draws W138 k139))
  clear HA138
  have hdr : Below W138.heap.size W138 (W138.drewN k139) := below_draws W138 k139
  have hstd : Stays (fun _ => False) W138 (W138.drewN k139) := Stays.of_below hdr (Nat.le_refl _) _
  have HS140 := Lib.hid (HS138.out.fut hdr)
  clear HS138 hdr hstd
  generalize W138.drewN k139 = W140 at *
  go_wp2_with fail
  refine (mHashes_any D B g 1000 hD.1 (by omega) W140 0 s pw138 nw138 cw138 wantB HS140.out.rd HA138b.out hnw138.out (by decide)).mono ?_
  rintro e W142 ⟨vv142, a142, er142, r142, rfl, hv142, HR142, HT142a, HT142⟩
  have HS142 := Lib.hid (HS140.out.call HR142.out HT142a.out)
  clear HS140 HR142
  have HV142 := Lib.hid hv142
  clear hv142
  obtain ⟨ph142, nh142, ch142, rfl⟩ := HV142.out.opens
  go_wp2_with fail
  refine planQ_normal (And.intro ⟨HS142.out.x2, HS142.out.x3⟩ ?_)
  refine' plan_quiet (s := 127) (A1 := _) (r := []) [4, 5] [_, _] _ rfl rfl rfl (fun W hW => ?hqb134) _ ⟨HS142.out.x2, HS142.out.x3⟩ (fun _ => ?hrb134)
  case hqb134 =>
    simp only [List.getElem_toArray, List.getElem_cons_zero, List.getElem_cons_succ]
    iterate 2 (go_big_quiet_step (fail))
    refine wpQuiet_nil ?_
    rfl
  case hrb134 =>
  refine plan_end fun k144 => HeadQ.normal ?_
  have hdr : Below W142.heap.size W142 (W142.drewN k144) := below_draws W142 k144
  have hstd : Stays (fun _ => False) W142 (W142.drewN k144) := Stays.of_below hdr (Nat.le_refl _) _
  have HV142_146 := Lib.hid (HV142.out.sep (hashE_keeps _) hstd (fun _ h => h.elim))
  clear HV142
  have HS145 := Lib.hid (HS142.out.fut hdr)
  clear HS142 hdr hstd
  generalize W142.drewN k144 = W145 at *
  have MA := HS145.out.ms.msg noHash_len noHash_len
  have cz := MA.c67
  have fz := HS145.out.ms.frozen 67
  clear MA
  go_wp2_with fail
  have hstz := Stays.set W145 z 67 (Value.slice ph142 nh142 ch142)
  have hsp : ∀ Ts, 41 ∉ Ts → Sep B Ts W145 (· = z) := fun Ts hT => sep_one HS145.out.ms hT
  have HS147 : Hid (FSt D B g z b2 b3 w (W145.setCell ⟨z, 67, none⟩ (Value.slice ph142 nh142 ch142)) er142 r142 (msgCells (.int .i64 11) (u32 0#32) (u64 0#64) noHash noHash (Value.slice ph142 nh142 ch142) (.slice none 0 0) (.slice none 0 0) ZBlk)) := Lib.hid (HS145.out.put hD.2 (by have h := HS145.out.ms.set 67 (Value.slice ph142 nh142 ch142); rw [msg_set67 _ _ _ _ _ _ _ noHash_len noHash_len] at h; exact h) hstz)
  have HV142_148 := Lib.hid (HV142_146.out.sep (hashE_keeps _) hstz (hsp _ (by decide)))
  clear HV142_146
  clear HS145 cz fz hstz hsp
  generalize W145.setCell ⟨z, 67, none⟩ (Value.slice ph142 nh142 ch142) = W147 at *
  first | go_end0 | refine bodyPost_ret (results_none rfl _ _ _) rfl ?_
  exact ⟨rfl, { noMsg with k := 11, hs := a142 }, _, _, _, Lib.hid HS147.out.rd, Lib.hid HS147.out.ms, Lib.hid (⟨_, _, _, _, rfl, noHash_len, noHash_len, HV142_148.out, RowO.nil _ _ _ _ _, Own8.nil _ _, ⟨.slice none 0 0, rfl, noHdr_ok, RowO.nil _ _ _ _ _⟩⟩), Lib.hid HS147.out.st, Lib.hid (by rw [fz11]; exact (HT142.out).bind (Step.ret _ _ _))⟩
end Go.Proofs.YtjbijcjcejfpcaaGreatDoor
