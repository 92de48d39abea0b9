/- sporran/header.Encode: a header as data, the closure that puts a number's bytes. · sporran/header.Decode: its closures, a header built, a header read. · sporran/header.Decode: the walk. · A header read as data; sporranlaw06.HeaderShort: the walk. · Headers compared; a header's bytes, read. · sporranref06.Encode: the walk. · sporranref06.Decode: the walk. · append of some bytes to a full row of whatever type of array: the row is the call's own.  -/
import Derived.Deep.DeepCutAuto
import Derived.Deep.MidRow
import Derived.Laws.Tables
import Derived.RegionTactic
import Derived.DeepKeys
import Derived.Laws.StructEq
import Derived.Test.YtndobjlodpkknaaAGB
import Derived.Test.YtndobjlodpkknaaAGA
import Derived.Test.YtndobjlodpkknaaAGZ
namespace Go.Proofs.Ytndobjlodpkknaa
open Go.RowKit
structure Hdr where
  v : BitVec 32
  p : List (BitVec 8)
  m : List (BitVec 8)
  t : BitVec 32
  b : BitVec 32
  n : BitVec 32
def Hdr.ok (h : Hdr) : Prop := h.p.length = 32 ∧ h.m.length = 32
def Hdr.cells (h : Hdr) : List Value := u32 h.v :: (h.p.map u8 ++ (h.m.map u8 ++ [u32 h.t, u32 h.b, u32 h.n]))
theorem Hdr.cells_len {h : Hdr} (hk : h.ok) : h.cells.length = 68 := by simp [Hdr.cells, hk.1, hk.2]
def le32 (n : BitVec 32) : List (BitVec 8) := low (n.setWidth 64) 4
def Hdr.bytes (h : Hdr) : List (BitVec 8) := le32 h.v ++ (h.p ++ (h.m ++ (le32 h.t ++ (le32 h.b ++ le32 h.n))))
def zeros (n : Nat) : List (BitVec 8) := List.replicate n 0#8
theorem hdr_cell_last {h : Hdr} (hk : h.ok) (i : Nat) : h.cells[65 + i]? = [u32 h.t, u32 h.b, u32 h.n][i]? := by
  rw [Hdr.cells, show 65 + i = (64 + i) + 1 by omega, List.getElem?_cons_succ, List.getElem?_append_right (by rw [List.length_map, hk.1]; omega), List.length_map, hk.1, List.getElem?_append_right (by rw [List.length_map, hk.2]; omega), List.length_map, hk.2]
  congr 1; omega
theorem act_put_some (cs : Array Value) (ds : List Deferred) (n : Nat) (v : Value) : (Act.mk cs ds).put (some n) v = ⟨cs.setIfInBounds n v, ds⟩ := rfl
theorem zero_of {P : Program} {t : TypeId} {z : Value} (h : (P.info? t).map (·.zero) = some (some z)) : ∀ w, (zeroValue t).run P w = .ok z w := by
  intro w
  cases hi : P.info? t with
  | none => rw [hi] at h; cases h
  | some i =>
    rw [hi] at h
    simp only [Option.map_some, Option.some.injEq] at h
    simp [zeroValue, typeInfo, hi, h, go_sem]
end Go.Proofs.Ytndobjlodpkknaa
namespace Go.Proofs.Ytndobjlodpkknaa
open Go.RowKit
theorem of_fn {α : Type} (p : List α) (n : Nat) (h : p.length = n) : ∃ x : Fin n → α, p = List.ofFn x := by
  subst h
  exact ⟨fun i => p[i], List.ofFn_getElem.symm⟩
theorem built_hdr (h : Hdr) (hk : h.ok) : Try.prog.built 33 [(0, u32 h.v), (1, .agg (h.p.map u8).toArray), (2, .agg (h.m.map u8).toArray), (3, u32 h.t), (4, u32 h.b), (5, u32 h.n)] = some h.cells.toArray := by
  obtain ⟨v, p, m, t, b, n⟩ := h
  obtain ⟨x, rfl⟩ := of_fn p 32 hk.1
  obtain ⟨y, rfl⟩ := of_fn m 32 hk.2
  kernel_rfl
set_option maxRecDepth 100000 in
set_option maxHeartbeats 2000000 in
theorem part_any (at0 n gb bb of N c : Nat) (w : World) (hcell : w.cell? ⟨gb, 0, none⟩ = some (.slice (some ⟨bb, of, none⟩) N c)) (h : at0 + n ≤ N) (hN : N ≤ c) (hc : c ≤ 9223372036854775807) (hn : 0 < n) :
    Calls Try.prog 73 #[.int .i64 (at0 : Int), .int .i64 (n : Int), .pointer (some ⟨gb, 0, none⟩)] w fun e w' => e = .returned (.slice (some ⟨bb, of + at0, none⟩) n n) ∧ w' = w := by
  have h0 : (0 : Int) ≤ (at0 : Int) := by omega
  have h1 : (at0 : Int) ≤ (at0 : Int) + (n : Int) := by omega
  have h2 : (at0 : Int) + (n : Int) ≤ (c : Int) := by omega
  have h3 : (0 : Int) < (n : Int) := by omega
  have h4 : ¬ (at0 + n = at0) := by omega
  have h5 : Hid (at0 + n - at0 = n) := Lib.hid (by omega)
  go_enter Try.func73, Try.ntmps73
  go_wp2
  go_ret
  refine ⟨?_, rfl⟩
  show Ending.returned (Value.slice (some ⟨bb, of + at0, none⟩) (at0 + n - at0) (at0 + n - at0)) = _
  rw [h5.out]
set_option maxRecDepth 100000 in
set_option maxHeartbeats 2000000 in
theorem num_any (at0 gb gp bb of N c : Nat) (bs : List (BitVec 8)) (w : World) (hcell : w.cell? ⟨gb, 0, none⟩ = some (.slice (some ⟨bb, of, none⟩) N c)) (hfn : w.cell? ⟨gp, 0, none⟩ = some (.func (.func 73) #[] #[.pointer (some ⟨gb, 0, none⟩)]))
    (hr : Row8 w (some ⟨bb, of, none⟩) bs) (hbs : bs.length = N) (h : at0 + 4 ≤ N) (hN : N ≤ c) (hc : c ≤ 9223372036854775807) :
    Calls Try.prog 74 #[.int .i64 (at0 : Int), .pointer (some ⟨gp, 0, none⟩)] w fun e w' => e = .returned (u32 (num32 (bs.drop at0))) ∧ ∃ k, w' = w.drewN k := by
  have hp := part_any at0 4 gb bb of N c w hcell h hN hc (by omega)
  rw [show ((4 : Nat) : Int) = 4 by rfl] at hp
  obtain ⟨b', of', e', _, hrow⟩ := hr (fun e => by rw [e] at hbs; simp at hbs; omega)
  injection e' with e'
  injection e' with e1 e2 _
  subst e1
  subst e2
  have key : ∀ i, i < 4 → ∃ x, bs[at0 + i]? = some x ∧ w.cell? ⟨bb, of + at0 + i, none⟩ = some (.int .u8 (iv8 x)) := fun i hi => by
    refine ⟨bs[at0 + i]'(by omega), List.getElem?_eq_getElem _, ?_⟩
    rw [Nat.add_assoc]
    exact hrow _ _ (List.getElem?_eq_getElem _)
  obtain ⟨x0, y0, c0⟩ := key 0 (by omega)
  obtain ⟨x1, y1, c1⟩ := key 1 (by omega)
  obtain ⟨x2, y2, c2⟩ := key 2 (by omega)
  obtain ⟨x3, y3, c3⟩ := key 3 (by omega)
  have hnum : Hid (num32 (bs.drop at0) = ((x0.setWidth 32 ||| x1.setWidth 32 <<< 8) ||| x2.setWidth 32 <<< 16) ||| x3.setWidth 32 <<< 24) := Lib.hid (by
    rw [num_or, num32_four (bs.drop at0) x0 x1 x2 x3 (by rw [List.getElem?_drop]; exact y0) (by rw [List.getElem?_drop]; exact y1) (by rw [List.getElem?_drop]; exact y2) (by rw [List.getElem?_drop]; exact y3)])
  have s1 := shl32 (x1.setWidth 32) 8 256 (by rfl)
  have s2 := shl32 (x2.setWidth 32) 16 65536 (by rfl)
  have s3 := shl32 (x3.setWidth 32) 24 16777216 (by rfl)
  have w0 := ext8_32 x0
  have w1 := ext8_32 x1
  have w2 := ext8_32 x2
  have w3 := ext8_32 x3
  have o1 := or32 (x0.setWidth 32) (x1.setWidth 32 <<< 8)
  have o2 := or32 (x0.setWidth 32 ||| x1.setWidth 32 <<< 8) (x2.setWidth 32 <<< 16)
  have o3 := or32 ((x0.setWidth 32 ||| x1.setWidth 32 <<< 8) ||| x2.setWidth 32 <<< 16) (x3.setWidth 32 <<< 24)
  rw [Nat.add_zero] at c0
  clear key hrow hr y0 y1 y2 y3
  go_enter Try.func74, Try.ntmps74
  go_wp2_with fail
  refine hp.mono ?_
  rintro e wx ⟨rfl, hw⟩
  replace hw := hw.symm
  subst hw
  go_wp2_with fail
  go_quiet (fail)
  go_wp2
  go_ret
  refine ⟨ret_int ?_, _, rfl⟩
  rw [hnum.out]
end Go.Proofs.Ytndobjlodpkknaa
namespace Go.Proofs.Ytndobjlodpkknaa
open Go.RowKit
def noHdr : Hdr := ⟨0#32, zeros 32, zeros 32, 0#32, 0#32, 0#32⟩
theorem noHdr_ok : noHdr.ok := ⟨rfl, rfl⟩
def hdrOf (bs : List (BitVec 8)) : Hdr := ⟨num32 bs, (bs.drop 4).take 32, (bs.drop 36).take 32, num32 (bs.drop 68), num32 (bs.drop 72), num32 (bs.drop 76)⟩
theorem hdrOf_ok (bs : List (BitVec 8)) (h : 80 ≤ bs.length) : (hdrOf bs).ok := by
  constructor <;> simp [hdrOf] <;> omega
def hdrP (bs : List (BitVec 8)) : Hdr × List (BitVec 8) × Int := if bs.length < 80 then (noHdr, [], 50) else (hdrOf bs, bs.drop 80, 0)
def HdrPost (w : World) (x : Hdr × List (BitVec 8) × Int) (e : Ending) (w' : World) : Prop :=
  ∃ v, e = .returned (.tuple #[.agg x.1.cells.toArray, v, .int .i64 x.2.2]) ∧ Own8 w' w.heap.size v x.2.1 ∧ Below w.heap.size w w'
theorem Hdr.cells_one (h : Hdr) : h.cells.toArray.all (·.oneCell') = true := by
  rw [List.all_toArray, Hdr.cells]
  simp [List.all_append, Value.oneCell']
theorem Hdr.cells_size {h : Hdr} (hk : h.ok) : h.cells.toArray.size = 68 := by rw [List.size_toArray, Hdr.cells_len hk]
theorem zeroHdr : ∀ w, (zeroValue 33).run Try.prog w = .ok (.agg noHdr.cells.toArray) w := zero_of (by kernel_rfl)
theorem builtNo : Try.prog.built 33 [] = some noHdr.cells.toArray := by kernel_rfl
theorem Blk.range {w : World} {g : Nat} {t : TypeId} {cs : List Value} (h : Blk w g t cs.toArray) : w.rangeAt g 0 cs := fun j v hj => by
  rw [Nat.zero_add, h.cell, List.getElem?_toArray]; exact hj
theorem results_cell3 {fn : Func} {p u v : Tmp} {ty : TypeId} (h : fn.results = #[.cell p ty, .tmp u, .tmp v]) (tmps : Array Value) (P : Program) (w : World) (g : Nat) (t : TypeId) (cs : List Value) (d : TypeDesc)
    (hp : tmps.getD p undef = .pointer (some ⟨g, 0, none⟩)) (hg : Blk w g t cs.toArray) (hu : P.underlying ty = some d) (hd : d.isRow = true) (hi : (P.info? ty).map (·.size) = some cs.length) :
    (results fn tmps).run P w = .ok (.tuple #[.agg cs.toArray, tmps.getD u undef, tmps.getD v undef]) w := by
  have hp' : tmps[p]?.getD undef = .pointer (some ⟨g, 0, none⟩) := by simpa using hp
  simp [results, h, hp', asAddr, run_loadVar_mid w g 0 ty cs d hg.range hu hd hi]
theorem Row8.range {w : World} {b o : Nat} {bs : List (BitVec 8)} (h : Row8 w (some ⟨b, o, none⟩) bs) (k n : Nat) : w.rangeAt b (o + k) (((bs.drop k).take n).map u8) := fun j v hj => by
  rw [List.getElem?_map, List.getElem?_take] at hj
  split at hj
  · rw [List.getElem?_drop] at hj
    cases hx : bs[k + j]? with
    | none => rw [hx] at hj; cases hj
    | some x =>
      rw [hx] at hj
      obtain ⟨b', o', e, _, hc⟩ := h (fun e => by rw [e] at hx; cases hx)
      injection e with e
      injection e with e1 e2 _
      subst e1
      subst e2
      rw [Nat.add_assoc, hc _ _ hx]
      simpa using hj
  · cases hj
theorem act_put_none (a : Act) (v : Value) : a.put none v = a := rfl
def SB (w2 w' : World) : Prop := Below w2.heap.size w2 w'
section
variable {w2 w' : World}
theorem SB.drew (h : SB w2 w') : SB w2 w'.drew := Below.drew h
theorem SB.drewN (h : SB w2 w') (k : Nat) : SB w2 (w'.drewN k) := below_drewN h k
theorem SB.alloc (h : SB w2 w') (o : Obj) : SB w2 (w'.alloc o) := Below.alloc h (Below.size h) o
theorem SB.refl (w2 : World) : SB w2 w2 := Below.refl _ _
end
theorem run_arrayAt32 (a : Option Addr) (w : World) : (Instr.arrayAt 29 (.slice a 32 32)).run Try.prog w = .ok (.pointer a) w := by
  simp [Instr.arrayAt, run_underlying Try.underlying29, go_sem]
set_option maxRecDepth 100000 in
set_option maxHeartbeats 2000000 in
theorem hdrDecode_any (p : Option Addr) (n c : Nat) (bs : List (BitVec 8)) (w : World) (hr : Row8 w p bs) (hn : bs.length = n) (hl : n ≤ c) (hb : c ≤ 9223372036854775807) (hbig : n ≤ 140737488355328) :
    Calls Try.prog 45 #[.slice p n c] w (HdrPost w (hdrP bs)) := by
  have HN := Lib.hid hn
  clear hn
  have hmf : ∀ (fn : Fn) (first cap : Array Value) (w : World), (Instr.makeFunc fn first cap).run Try.prog w = .ok (.func fn first cap) w := fun _ _ _ _ => rfl
  have hsf : ∀ (a : Addr) (fn : Fn) (f c : Array Value) (w : World), (store a (.func fn f c)).run Try.prog w = stored Try.prog w a (.func fn f c) .plain := fun a fn f c w => run_store _ w a _ _ rfl
  have hz := zeroHdr
  have hbn : ∀ w, (Instr.build 33 #[]).run Try.prog w = .ok (.agg noHdr.cells.toArray) w := fun w => run_build w _ _ _ builtNo
  obtain ⟨Z, hZ⟩ : ∃ Z, Z = noHdr.cells.toArray := ⟨_, rfl⟩
  rw [← hZ] at hz
  rw [← hZ] at hbn
  have HZ := Lib.hid hZ
  have hZs : Hid (Z.size = 68) := Lib.hid (by rw [hZ, Hdr.cells_size noHdr_ok])
  clear hZ
  go_enter Try.func45, Try.ntmps45
  go_upto_region 1 with fail
  refine wp_abst (fun w' => w'.cell? ⟨w.heap.size, 0, none⟩ = some (.slice p n c) ∧ Hid (Blk w' (w.heap.size + 1) 33 Z) ∧ Below w.heap.size w w') ⟨?_, Lib.hid (by exact Blk.new2 w _ _ _), ((Below.refl _ _).alloc (Nat.le_refl _) _).alloc (by simp) _⟩ ?_
  · rw [World.cell?_alloc_past _ _ _ (by simp), World.cell?_alloc_at _ _ _ _ rfl]; rfl
  rintro w1 ⟨hc1, hb1, hbel1⟩
  by_cases hs : n < 80
  · have HP : Hid (hdrP bs = (noHdr, [], 50)) := Lib.hid (by unfold hdrP; rw [if_pos (by rw [HN.out]; exact hs)])
    have hsi : (n : Int) < 80 := by omega
    clear hs
    go_wp2_with (with_reducible refine wp_store_blk (o := ⟨none, _, _, _, _, _⟩) ?_ 33 (.tmp 2) (.tmp 11) ?_ (w.heap.size + 1) 33 Z Z ?_ ?_ hb1.out ?_ ?_ ?_ w.heap.size w hbel1 ?_ ?_
                 · rfl
                 · rfl
                 · rfl
                 · rfl
                 · rw [hZs.out]; kernel_rfl
                 · rfl
                 · rw [HZ.out]; exact Hdr.cells_one _
                 · omega
                 intro w2 hb2 hbel2 _ _)
    refine bodyPost_ret (results_cell3 rfl _ _ _ (w.heap.size + 1) _ noHdr.cells _ rfl (by rw [← HZ.out]; exact hb2.out) Try.underlying33 rfl (by kernel_rfl)) rfl ?_
    rw [HP.out]
    exact ⟨_, rfl, Own8.nil _ _, hbel2⟩
  · have hge : ¬ (n : Int) < 80 := by omega
    have hn80 : 80 ≤ n := by omega
    have hHo := hdrOf_ok bs (by rw [HN.out]; exact hn80)
    obtain ⟨h, hh⟩ : ∃ h, h = hdrOf bs := ⟨_, rfl⟩
    have HP : Hid (hdrP bs = (h, bs.drop 80, 0)) := Lib.hid (by unfold hdrP; rw [if_neg (by rw [HN.out]; omega), hh])
    rw [← hh] at hHo
    have HH := Lib.hid hh
    clear hh hs
    obtain ⟨bb, of, rfl, hbl, _⟩ := hr (fun e => by have := HN.out; rw [e] at this; simp at this; omega)
    have hlt1 := hb1.out.lt
    go_upto_region 5 with fail
    refine wp_abst (fun w' => w'.cell? ⟨w.heap.size, 0, none⟩ = some (.slice (some ⟨bb, of, none⟩) n c) ∧ w'.cell? ⟨w1.heap.size, 0, none⟩ = some (.func (.func 73) #[] #[.pointer (some ⟨w.heap.size, 0, none⟩)]) ∧ Hid (Blk w' (w.heap.size + 1) 33 Z) ∧ Below w.heap.size w w' ∧ w1.heap.size < w'.heap.size)
      ⟨?_, ?_, Lib.hid ?_, hbel1.alloc hbel1.size _, by simp⟩ ?_
    · rw [World.cell?_alloc_past _ _ _ (by omega)]; exact hc1
    · rw [World.cell?_alloc_at _ _ _ _ rfl]; rfl
    · exact hb1.out.alloc _
    rintro w2 ⟨hc2, hf2, hb2, hbel2, hlt2⟩
    clear hsf hmf hbn hc1 hb1 hbel1 hbl
    have hr2 := hr.below hbel2 (Nat.le_refl _)
    have hSof : ∀ w', SB w2 w' → w'.cell? ⟨w.heap.size, 0, none⟩ = some (.slice (some ⟨bb, of, none⟩) n c) ∧ w'.cell? ⟨w1.heap.size, 0, none⟩ = some (.func (.func 73) #[] #[.pointer (some ⟨w.heap.size, 0, none⟩)]) ∧ w'.rangeAt bb (of + 4) (h.p.map u8) ∧ w'.rangeAt bb (of + 36) (h.m.map u8) := by
      intro w' hB
      have hr3 := hr2.below hB (Nat.le_refl _)
      refine ⟨(Below.cell hB (p := ⟨w.heap.size, 0, none⟩) (show w.heap.size < w2.heap.size by omega)).trans hc2, (Below.cell hB (p := ⟨w1.heap.size, 0, none⟩) (show w1.heap.size < w2.heap.size by omega)).trans hf2, ?_, ?_⟩
      · rw [HH.out]; exact hr3.range 4 32
      · rw [HH.out]; exact hr3.range 36 32
    have numC : ∀ (at0 : Nat) (at1 : Int) (x : BitVec 32), at1 = (at0 : Int) → at0 + 4 ≤ n → num32 (bs.drop at0) = x → ∀ W, SB w2 W → ∀ k, Calls Try.prog 74 #[.int .i64 at1, .pointer (some ⟨w1.heap.size, 0, none⟩)] (W.drewN k) fun e w'' => e = .returned (u32 x) ∧ ∃ m, w'' = W.drewN m := by
      intro at0 at1 x e1 h1 e2 W hW k
      subst e1
      subst e2
      have hB := hW.drewN k
      exact (num_any at0 w.heap.size w1.heap.size bb of n c bs (W.drewN k) (hSof _ hB).1 (hSof _ hB).2.1 (hr2.below hB (Nat.le_refl _)) HN.out h1 hl hb).mono fun _ _ ⟨he, m, hm⟩ => ⟨he, k + m, by rw [hm, World.drewN_drewN]⟩
    have partC : ∀ (at0 m0 : Nat) (at1 m1 : Int), at1 = (at0 : Int) → m1 = (m0 : Int) → at0 + m0 ≤ n → 0 < m0 → ∀ W, SB w2 W → ∀ k, Calls Try.prog 73 #[.int .i64 at1, .int .i64 m1, .pointer (some ⟨w.heap.size, 0, none⟩)] (W.drewN k) fun e w'' => e = .returned (.slice (some ⟨bb, of + at0, none⟩) m0 m0) ∧ ∃ m, w'' = W.drewN m := by
      intro at0 m0 at1 m1 e1 e2 h1 h2 W hW k
      subst e1
      subst e2
      exact (part_any at0 m0 w.heap.size bb of n c (W.drewN k) (hSof _ (hW.drewN k)).1 h1 hl hb h2).mono fun _ _ ⟨he, hm⟩ => ⟨he, k, hm⟩
    have M0 := numC 0 0 h.v rfl (by omega) (by rw [HH.out]; rfl)
    have M1 := numC 68 68 h.t rfl (by omega) (by rw [HH.out]; rfl)
    have M2 := numC 72 72 h.b rfl (by omega) (by rw [HH.out]; rfl)
    have M3 := numC 76 76 h.n rfl (by omega) (by rw [HH.out]; rfl)
    have L0 := partC 4 32 4 32 rfl rfl (by omega) (by omega)
    have L1 := partC 36 32 36 32 rfl rfl (by omega) (by omega)
    clear numC partC
    refine' early_alloc 17 (by kernel_rfl) (by kernel_rfl) 35 rfl (by kernel_rfl) 7 33 _ rfl rfl rfl rfl (.agg Z) hz (SB w2) (SB.refl _).drew ((SB.refl _).drew.alloc _) _ ?hWalk ?hTail
    case hWalk =>
      intro W hW
      obtain ⟨hcW, hfW, R4, R36⟩ := hSof W hW
      have N0 := M0 W hW
      have N1 := M1 W hW
      have N2 := M2 W hW
      have N3 := M3 W hW
      have P0 := L0 W hW
      have P1 := L1 W hW
      have hAt := run_arrayAt32
      simp only [List.take_succ_cons, List.take_zero]
      iterate 2 (go_big_quiet_step (exact N0 _))
      iterate 3 (go_big_quiet_step (exact P0 _))
      refine quiet_load_mid rfl 29 (.tmp 18) rfl bb (of + 4) rfl (h.p.map u8) _ (fun w' ⟨k, hk⟩ => by rw [hk]; exact R4) Try.underlying29 rfl (by rw [List.length_map, hHo.1]; kernel_rfl) ?_
      simp only [act_put_some, List.setIfInBounds_toArray, List.set_cons_succ, List.set_cons_zero]
      iterate 3 (go_big_quiet_step (exact P1 _))
      refine quiet_load_mid rfl 29 (.tmp 22) rfl bb (of + 36) rfl (h.m.map u8) _ (fun w' ⟨k, hk⟩ => by rw [hk]; exact R36) Try.underlying29 rfl (by rw [List.length_map, hHo.2]; kernel_rfl) ?_
      simp only [act_put_some, List.setIfInBounds_toArray, List.set_cons_succ, List.set_cons_zero]
      iterate 2 (go_big_quiet_step (exact N1 _))
      iterate 2 (go_big_quiet_step (exact N2 _))
      iterate 2 (go_big_quiet_step (exact N3 _))
      refine quiet_build rfl 33 #[(0, .tmp 15), (1, .tmp 19), (2, .tmp 23), (3, .tmp 25), (4, .tmp 27), (5, .tmp 29)] rfl h.cells.toArray ?_ ?_
      · simp only [List.map_toArray, List.map_cons, List.map_nil]
        exact built_hdr h hHo
      simp only [act_put_some, List.setIfInBounds_toArray, List.set_cons_succ, List.set_cons_zero]
      refine wpQuiet_nil ?_
      rfl
    case hTail =>
      intro nq
      simp only [act_put_some, List.setIfInBounds_toArray, List.set_cons_succ, List.set_cons_zero]
      have HS : Hid (h.cells.length = 68) := Lib.hid (Hdr.cells_len hHo)
      obtain ⟨w3, hw3⟩ : ∃ w3, w3 = (w2.drew.alloc (.cells (Value.agg Z).cells 33)).drewN nq := ⟨_, rfl⟩
      have hk3 : Blk w3 w2.heap.size 33 Z := by rw [hw3]; exact Blk.new w2.drew _ _
      have hB3 : SB w2 w3 := by rw [hw3]; exact ((SB.refl _).drew.alloc _).drewN _
      rw [← hw3]
      clear hw3 M0 M1 M2 M3 L0 L1
      have hcell3 := (hSof w3 hB3).1
      have hb3 := Lib.hid (hb2.out.below hB3 (by omega))
      have hbel3 := hbel2.trans (hB3.mono hbel2.size)
      have hr3 := hr2.below hB3 (Nat.le_refl _)
      have hsz2 := hbel2.size
      clear hSof hc2 hf2 hb2 hr2
      refine wp_store_blk (o := ⟨none, _, _, _, _, _⟩) rfl 33 (.tmp 7) (.tmp 30) rfl w2.heap.size 33 Z h.cells.toArray rfl rfl hk3 (by rw [List.size_toArray, HS.out]; kernel_rfl) (hZs.out.trans (by rw [List.size_toArray, HS.out])) (Hdr.cells_one _) w2.heap.size w3 (Below.refl _ _) (Nat.le_refl _) ?_
      intro w4 hb4 hbel4 _ _
      rw [act_put_none]
      have hcell4 : w4.cell? ⟨w.heap.size, 0, none⟩ = some (.slice (some ⟨bb, of, none⟩) n c) := (Below.cell hbel4 (p := ⟨w.heap.size, 0, none⟩) (show w.heap.size < w2.heap.size by omega)).trans hcell3
      have hb5 := Lib.hid (hb3.out.below hbel4 (by omega))
      have hbw4 := hbel3.trans (hbel4.mono hsz2)
      have hr4 := hr.below hbw4 (Nat.le_refl _)
      have hdr := hr4.drop (k := 80) (c := c) (by rw [HN.out]; exact hl)
      have hld : Hid ((bs.drop 80).length = n - 80) := Lib.hid (by rw [List.length_drop, HN.out])
      have hge2 : (80 : Int) ≤ (n : Int) := by omega
      have hn2 : (n : Int) ≤ (c : Int) := by omega
      clear hcell3 hb3 hbel3 hr3 hk3 hbel4
      have hcl : Hid (c ≤ 9223372036854775807) := Lib.hid hb
      go_upto_region 6 with fail
      have hdw : ∀ q, (c = 80 → q = some ⟨bb, of, none⟩) → (c ≠ 80 → q = some ⟨bb, of + 80, none⟩) → Row8 w4 q (bs.drop 80) := by
        intro q h1 h2
        by_cases hc80 : c = 80
        · rw [if_pos hc80] at hdr; rw [h1 hc80]; exact hdr
        · rw [if_neg hc80, Option.map_some, Addr.add_lit] at hdr; rw [h2 hc80]; exact hdr
      clear hdr
      by_cases hc80 : c = 80
      · have hdr := hdw _ (fun _ => rfl) (fun h => absurd hc80 h)
        clear hdw
        refine' early_op 3 (by kernel_rfl) (by kernel_rfl) 35 rfl (by kernel_rfl) _ rfl rfl (SB w4) (fun p W => Own8 W w4.heap.size p (bs.drop 80) ∧ SB w4 W) (SB.refl _).drew (fun _ _ hR => hR.2) _ ?hWalk ?hX ?hTail
        case hWalk =>
          intro W hW
          have hcW : W.cell? ⟨w.heap.size, 0, none⟩ = some (.slice (some ⟨bb, of, none⟩) n c) := (Below.cell hW (p := ⟨w.heap.size, 0, none⟩) (show w.heap.size < w4.heap.size by have := hb5.out.lt; omega)).trans hcell4
          have hrW : W.rangeAt w2.heap.size 0 h.cells := (Blk.below hb4.out hW hb4.out.lt).range
          simp only [List.take_succ_cons, List.take_zero]
          refine quiet_load_mid rfl 33 (.tmp 7) rfl w2.heap.size 0 rfl h.cells _ (fun w' ⟨k, hk⟩ => by rw [hk]; exact hrW) Try.underlying33 rfl (by rw [HS.out]; kernel_rfl) ?_
          simp only [act_put_some, List.setIfInBounds_toArray, List.set_cons_succ, List.set_cons_zero]
          iterate 2 (go_big_quiet_step (fail))
          refine wpQuiet_nil ?_
          rfl
        case hX =>
          intro k
          simp [go_sem]
          refine (clone_any (some ⟨bb, of, none⟩) (n - 80) (0) (bs.drop 80) (w4.drewN (1 + k)) (hdr.below (below_drewN (Below.refl _ _) _) (Nat.le_refl _)) hld.out (by omega) (fun h => by cases h)).mono ?_
          rintro e w' ⟨v, rfl, ho, hb⟩
          exact ⟨v, rfl, ho, (below_drewN (Below.refl _ _) _).trans hb⟩
        case hTail =>
          rintro v W k ⟨hov, hBW⟩
          simp only [List.drop_succ_cons, List.drop_zero, act_put_some, List.setIfInBounds_toArray, List.set_cons_succ, List.set_cons_zero]
          have hlt4 := hb5.out.lt
          have hBk : SB w4 (W.drewN k) := hBW.drewN k
          have hbW : Blk (W.drewN k) (w.heap.size + 1) 33 Z := hb5.out.below hBk hlt4
          have hovk : Own8 (W.drewN k) w4.heap.size v (bs.drop 80) := hov
          generalize W.drewN k = w5 at *
          have hbw5 := hbw4.trans (hBk.mono hbw4.size)
          refine wp_store_blk (o := ⟨none, _, _, _, _, _⟩) rfl 33 (.tmp 2) (.tmp 31) rfl (w.heap.size + 1) 33 Z h.cells.toArray rfl rfl hbW (by rw [List.size_toArray, HS.out]; kernel_rfl) (hZs.out.trans (by rw [List.size_toArray, HS.out])) (Hdr.cells_one _) w.heap.size w hbw5 (by omega) ?_
          intro w6 hb6 hbel6 hg6 _
          rw [act_put_none]
          have hov6 : Own8 w6 w4.heap.size v (bs.drop 80) := hovk.kept hg6.out (by
            cases hvo : v.ownBlock with
            | none => exact .inl rfl
            | some q =>
              refine .inr fun e => ?_
              injection e with e
              have := (World.ownsRow.lt hovk q hvo).1
              omega)
          go_wp2
          refine bodyPost_ret (results_cell3 rfl _ _ _ (w.heap.size + 1) _ h.cells _ rfl hb6.out Try.underlying33 rfl (by rw [HS.out]; kernel_rfl)) rfl ?_
          rw [HP.out]
          exact ⟨v, rfl, hov6.mono hbw4.size, hbel6⟩
      · have hdr := hdw _ (fun h => absurd h hc80) (fun _ => rfl)
        clear hdw
        refine' early_op 3 (by kernel_rfl) (by kernel_rfl) 35 rfl (by kernel_rfl) _ rfl rfl (SB w4) (fun p W => Own8 W w4.heap.size p (bs.drop 80) ∧ SB w4 W) (SB.refl _).drew (fun _ _ hR => hR.2) _ ?hWalk ?hX ?hTail
        case hWalk =>
          intro W hW
          have hcW : W.cell? ⟨w.heap.size, 0, none⟩ = some (.slice (some ⟨bb, of, none⟩) n c) := (Below.cell hW (p := ⟨w.heap.size, 0, none⟩) (show w.heap.size < w4.heap.size by have := hb5.out.lt; omega)).trans hcell4
          have hrW : W.rangeAt w2.heap.size 0 h.cells := (Blk.below hb4.out hW hb4.out.lt).range
          simp only [List.take_succ_cons, List.take_zero]
          refine quiet_load_mid rfl 33 (.tmp 7) rfl w2.heap.size 0 rfl h.cells _ (fun w' ⟨k, hk⟩ => by rw [hk]; exact hrW) Try.underlying33 rfl (by rw [HS.out]; kernel_rfl) ?_
          simp only [act_put_some, List.setIfInBounds_toArray, List.set_cons_succ, List.set_cons_zero]
          iterate 2 (go_big_quiet_step (fail))
          refine wpQuiet_nil ?_
          rfl
        case hX =>
          intro k
          simp [go_sem]
          refine (clone_any (some ⟨bb, of + 80, none⟩) (n - 80) (c - 80) (bs.drop 80) (w4.drewN (1 + k)) (hdr.below (below_drewN (Below.refl _ _) _) (Nat.le_refl _)) hld.out (by omega) (fun h => by cases h)).mono ?_
          rintro e w' ⟨v, rfl, ho, hb⟩
          exact ⟨v, rfl, ho, (below_drewN (Below.refl _ _) _).trans hb⟩
        case hTail =>
          rintro v W k ⟨hov, hBW⟩
          simp only [List.drop_succ_cons, List.drop_zero, act_put_some, List.setIfInBounds_toArray, List.set_cons_succ, List.set_cons_zero]
          have hlt4 := hb5.out.lt
          have hBk : SB w4 (W.drewN k) := hBW.drewN k
          have hbW : Blk (W.drewN k) (w.heap.size + 1) 33 Z := hb5.out.below hBk hlt4
          have hovk : Own8 (W.drewN k) w4.heap.size v (bs.drop 80) := hov
          generalize W.drewN k = w5 at *
          have hbw5 := hbw4.trans (hBk.mono hbw4.size)
          refine wp_store_blk (o := ⟨none, _, _, _, _, _⟩) rfl 33 (.tmp 2) (.tmp 31) rfl (w.heap.size + 1) 33 Z h.cells.toArray rfl rfl hbW (by rw [List.size_toArray, HS.out]; kernel_rfl) (hZs.out.trans (by rw [List.size_toArray, HS.out])) (Hdr.cells_one _) w.heap.size w hbw5 (by omega) ?_
          intro w6 hb6 hbel6 hg6 _
          rw [act_put_none]
          have hov6 : Own8 w6 w4.heap.size v (bs.drop 80) := hovk.kept hg6.out (by
            cases hvo : v.ownBlock with
            | none => exact .inl rfl
            | some q =>
              refine .inr fun e => ?_
              injection e with e
              have := (World.ownsRow.lt hovk q hvo).1
              omega)
          go_wp2
          refine bodyPost_ret (results_cell3 rfl _ _ _ (w.heap.size + 1) _ h.cells _ rfl hb6.out Try.underlying33 rfl (by rw [HS.out]; kernel_rfl)) rfl ?_
          rw [HP.out]
          exact ⟨v, rfl, hov6.mono hbw4.size, hbel6⟩
end Go.Proofs.Ytndobjlodpkknaa
namespace Go.Proofs.Ytndobjlodpkknaa
open Go.RowKit
theorem hdr_size {h : Hdr} (hk : h.ok) : (Try.prog.info? 33).map (·.size) = some h.cells.length := by rw [Hdr.cells_len hk]; kernel_rfl
def Hdr.lits (h : Hdr) : List Lit := .int .u32 (iv32 h.v) :: (h.p.map (fun x => .int .u8 (iv8 x)) ++ (h.m.map (fun x => .int .u8 (iv8 x)) ++ [.int .u32 (iv32 h.t), .int .u32 (iv32 h.b), .int .u32 (iv32 h.n)]))
theorem hdr_lits (h : Hdr) (hk : h.ok) : Try.prog.keyLits 4 33 h.cells = some h.lits := by
  have e0 : (h.cells.drop 0).take 1 = [u32 h.v] := rfl
  have e1 : (h.cells.drop 1).take 32 = h.p.map u8 := by
    rw [Hdr.cells, List.drop_succ_cons, List.drop_zero, List.take_left' (by rw [List.length_map, hk.1])]
  have e2 : (h.cells.drop 33).take 32 = h.m.map u8 := by
    rw [Hdr.cells, show 33 = 32 + 1 by rfl, List.drop_succ_cons, List.drop_left' (by rw [List.length_map, hk.1]), List.take_left' (by rw [List.length_map, hk.2])]
  have e3 : h.cells.drop 65 = [u32 h.t, u32 h.b, u32 h.n] := by
    rw [Hdr.cells, show 65 = 32 + 32 + 1 by rfl, List.drop_succ_cons, ← List.drop_drop, List.drop_left' (by rw [List.length_map, hk.1]), List.drop_left' (by rw [List.length_map, hk.2])]
  have e4 : h.cells.drop 66 = [u32 h.b, u32 h.n] := by rw [show 66 = 65 + 1 by rfl, ← List.drop_drop, e3]; rfl
  have e5 : h.cells.drop 67 = [u32 h.n] := by rw [show 67 = 65 + 2 by rfl, ← List.drop_drop, e3]; rfl
  have hc1 : Try.prog.cellsOf 26 = 1 := by kernel_rfl
  have hcl : h.cells.length = Try.prog.cellsOf 33 := by rw [Hdr.cells_len hk]; kernel_rfl
  unfold Program.keyLits
  rw [Try.underlying33]
  simp only []
  rw [if_pos ⟨hcl, by simp⟩]
  simp only [List.mapM_cons, List.mapM_nil, hc1, hashH_cells, e0, e1, e2, e3, e4, e5, List.take_succ_cons, List.take_zero, lits_u32 2, lits_hash 1 _ hk.1, lits_hash 1 _ hk.2]
  simp [Hdr.lits]
theorem hdr_formed (h : Hdr) (hk : h.ok) : (Value.agg h.cells.toArray).formed Try.prog 33 = true := by
  obtain ⟨v, p, m, t, b, n⟩ := h
  obtain ⟨x, rfl⟩ := of_fn p 32 hk.1
  obtain ⟨y, rfl⟩ := of_fn m 32 hk.2
  kernel_rfl
theorem hdr_same (h : Hdr) (hk : h.ok) (w : World) : (Op.equalIn 10000 33 (.agg h.cells.toArray) (.agg h.cells.toArray)).run Try.prog w = .ok true w :=
  equalIn_same (m := 4) (by omega) (by kernel_rfl) (hdr_formed h hk) (hdr_lits h hk) w
end Go.Proofs.Ytndobjlodpkknaa
namespace Go.Proofs.Ytndobjlodpkknaa
open Go.RowKit
theorem hset_v (h : Hdr) (x : BitVec 32) : h.cells.toArray.setIfInBounds 0 (.int .u32 (iv32 x)) = ({ h with v := x } : Hdr).cells.toArray := by
  rw [List.setIfInBounds_toArray]; rfl
theorem hcell_split (h : Hdr) : h.cells = ([u32 h.v] ++ h.p.map u8 ++ h.m.map u8) ++ [u32 h.t, u32 h.b, u32 h.n] := by simp [Hdr.cells]
theorem hset_l {h : Hdr} (hk : h.ok) (i : Nat) (x : Value) : h.cells.toArray.setIfInBounds (65 + i) x = (([u32 h.v] ++ h.p.map u8 ++ h.m.map u8) ++ [u32 h.t, u32 h.b, u32 h.n].set i x).toArray := by
  rw [List.setIfInBounds_toArray, hcell_split, List.set_append_right _ _ (by simp [hk.1, hk.2] <;> omega)]
  congr 3
  simp [hk.1, hk.2]
theorem hset_t {h : Hdr} (hk : h.ok) (x : BitVec 32) : h.cells.toArray.setIfInBounds 65 (.int .u32 (iv32 x)) = ({ h with t := x } : Hdr).cells.toArray := by
  rw [hset_l hk 0, hcell_split]; rfl
theorem hset_b {h : Hdr} (hk : h.ok) (x : BitVec 32) : h.cells.toArray.setIfInBounds 66 (.int .u32 (iv32 x)) = ({ h with b := x } : Hdr).cells.toArray := by
  rw [hset_l hk 1, hcell_split]; rfl
theorem hset_n {h : Hdr} (hk : h.ok) (x : BitVec 32) : h.cells.toArray.setIfInBounds 67 (.int .u32 (iv32 x)) = ({ h with n := x } : Hdr).cells.toArray := by
  rw [hset_l hk 2, hcell_split]; rfl
theorem hsp_p {h : Hdr} (hk : h.ok) (p : List (BitVec 8)) (hp : p.length = 32) : splice h.cells 1 (p.map u8) = ({ h with p := p } : Hdr).cells := by
  unfold splice Hdr.cells
  rw [List.take_succ_cons, List.take_zero, List.length_map, hp, show 1 + 32 = 32 + 1 from rfl, List.drop_succ_cons, List.drop_left' (by rw [List.length_map, hk.1])]
  rfl
theorem hsp_m {h : Hdr} (hk : h.ok) (m : List (BitVec 8)) (hm : m.length = 32) : splice h.cells 33 (m.map u8) = ({ h with m := m } : Hdr).cells := by
  unfold splice Hdr.cells
  rw [show 33 = 32 + 1 from rfl, List.take_succ_cons, List.take_left' (by rw [List.length_map, hk.1]), List.length_map, hm, show 32 + 1 + 32 = (32 + 32) + 1 from rfl, List.drop_succ_cons, ← List.drop_drop, List.drop_left' (by rw [List.length_map, hk.1]), List.drop_left' (by rw [List.length_map, hk.2])]
  rfl
theorem Own8.keptB {w w' : World} {B H : Nat} {v : Value} {bs : List (BitVec 8)} (h : Own8 w B v bs) (hg : w.grownBy w' (some H)) (hH : H < B) : Own8 w' B v bs := by
  refine h.kept hg ?_
  cases hv : v.ownBlock with
  | none => exact .inl rfl
  | some k =>
    have := (World.ownsRow.lt h k hv).1
    exact .inr (by intro e; injection e with e; omega)
theorem numTo_takeK (L : List (BitVec 8)) (k m : Nat) (hk : k ≤ m) : numTo (L.take m) k = numTo L k := by
  induction k with
  | zero => rfl
  | succ k ih => rw [numTo, numTo, ih (by omega), List.getElem?_take, if_pos (by omega)]
theorem num32_takeK (L : List (BitVec 8)) : (numTo (L.take 4) 4).setWidth 32 = num32 L := by rw [numTo_takeK _ _ _ (Nat.le_refl _)]; rfl
set_option maxRecDepth 100000 in
set_option maxHeartbeats 4000000 in
theorem refHdrDecode_any (p : Option Addr) (n c : Nat) (bs : List (BitVec 8)) (w : World) (hr : Row8 w p bs) (hn : bs.length = n) (hl : n ≤ c) (hb : c ≤ 9223372036854775807) (hbig : n ≤ 140737488355328) :
    Calls Try.prog 50 #[.slice p n c] w (HdrPost w (hdrP bs)) := by
  have HN := Lib.hid hn
  have HR := Lib.hid hr
  have hz := zeroHdr
  have hbt := builtNo
  obtain ⟨Z, hZ⟩ : ∃ Z, Z = noHdr.cells.toArray := ⟨_, rfl⟩
  rw [← hZ] at hz hbt
  have HZ := Lib.hid hZ
  have HBT := Lib.hid hbt
  clear hn hr hZ hbt
  by_cases h80 : n < 80
  · have hni : (n : Int) < 80 := by omega
    have HP : Hid (hdrP bs = (noHdr, [], 50)) := Lib.hid (by unfold hdrP; rw [if_pos (by rw [HN.out]; exact h80)])
    go_enter Try.func50, Try.ntmps50
    go_wp2_with (first
      | (with_reducible refine wp_build (o := ⟨some 9, _, _, _, _, _⟩) ?_ 33 #[] ?_ [] ?_ Z HBT.out ?_
         · rfl
         · rfl
         · rfl)
      | (with_reducible refine wp_store_blk (o := ⟨none, _, _, _, _, _⟩) ?_ 33 (.tmp 2) (.tmp 9) ?_ w.heap.size 33 Z Z ?_ ?_ (Blk.new w _ _) ?_ ?_ ?_ w.heap.size w ?_ ?_ ?_
         · rfl
         · rfl
         · rfl
         · rfl
         · rw [HZ.out, List.size_toArray]; exact hdr_size noHdr_ok
         · rfl
         · rw [HZ.out]; exact Hdr.cells_one _
         · exact (Below.refl _ _).alloc (Nat.le_refl _) _
         · exact Nat.le_refl _
         intro w5 hR5 hb5 hg5 hs5))
    rw [HZ.out] at hR5
    refine bodyPost_ret (results_cell3 rfl _ _ _ w.heap.size _ noHdr.cells _ rfl hR5.out Try.underlying33 rfl (hdr_size noHdr_ok)) rfl ?_
    rw [HP.out]
    exact ⟨_, rfl, Own8.nil _ _, hb5⟩
  · have hni : ¬ (n : Int) < 80 := by omega
    have HP : Hid (hdrP bs = (hdrOf bs, bs.drop 80, 0)) := Lib.hid (by unfold hdrP; rw [if_neg (by rw [HN.out]; exact h80)])
    obtain ⟨bb, of, rfl, hbl, _⟩ := HR.out (by intro e; have := HN.out; rw [e] at this; simp at this; omega)
    have row : ∀ k m, k + m ≤ n → k < c → Hid (Row8 w (some ⟨bb, of + k, none⟩) ((bs.drop k).take m)) := fun k m _ hk => by
      have := (HR.out.drop (k := k) (c := c) (by rw [HN.out]; exact hl)).take m
      rw [if_neg (by omega), Option.map_some, Addr.add_lit] at this
      exact Lib.hid this
    have len : ∀ k m, k + m ≤ n → Hid (((bs.drop k).take m).length = m) := fun k m hkm => Lib.hid (by rw [List.length_take, List.length_drop, HN.out]; omega)
    have r0 := row 0 4 (by omega) (by omega)
    have r4 := row 4 32 (by omega) (by omega)
    have r36 := row 36 32 (by omega) (by omega)
    have r68 := row 68 4 (by omega) (by omega)
    have r72 := row 72 4 (by omega) (by omega)
    have r76 := row 76 4 (by omega) (by omega)
    have l0 := len 0 4 (by omega)
    have l4 := len 4 32 (by omega)
    have l36 := len 36 32 (by omega)
    have l68 := len 68 4 (by omega)
    have l72 := len 72 4 (by omega)
    have l76 := len 76 4 (by omega)
    rw [Nat.add_zero] at r0
    clear row len
    have hn80 : 80 ≤ n := by omega
    have q1 : (4 : Int) ≤ (c : Int) := by omega
    have q2 : (36 : Int) ≤ (c : Int) := by omega
    have q3 : (68 : Int) ≤ (c : Int) := by omega
    have q4 : (72 : Int) ≤ (c : Int) := by omega
    have q5 : (76 : Int) ≤ (c : Int) := by omega
    have q6 : (80 : Int) ≤ (c : Int) := by omega
    have z1 : ¬ (c = 4) := by omega
    have z2 : ¬ (c = 36) := by omega
    have z3 : ¬ (c = 68) := by omega
    have z4 : ¬ (c = 72) := by omega
    have z5 : ¬ (c = 76) := by omega
    go_enter Try.func50, Try.ntmps50
    go_upto_region 4 with fail
    refine wp_abst (fun w' => Hid (Blk w' w.heap.size 33 Z) ∧ Hid (Blk w' (w.heap.size + 1) 33 noHdr.cells.toArray) ∧ Below w.heap.size w w') ⟨Lib.hid ((Blk.new w _ _).alloc _), Lib.hid (by rw [← HZ.out]; exact Blk.new2 w _ _ _), ((Below.refl _ _).alloc (Nat.le_refl _) _).alloc (by simp) _⟩ ?_
    rintro w1 ⟨hz1, hh1, hb1⟩
    have hlt1 := hh1.out.lt
    have f0 := hh1.out.frozen 0
    have k0 : w1.cell? ⟨w.heap.size + 1, 0, none⟩ = some (.int .u32 (iv32 0#32)) := by rw [hh1.out.cell]; rfl
    go_wp2_with fail
    refine (number_any _ 4 c _ w1 (r0.out.below hb1 (Nat.le_refl _)) l0.out (by omega)).mono ?_
    rintro e w2 ⟨rfl, hw2⟩
    replace hw2 := hw2.symm
    subst hw2
    have e0 := cut64_32 (numTo ((bs.drop 0).take 4) 4)
    go_upto_region 5 with fail
    obtain ⟨g1, hg1⟩ : ∃ x : Hdr, x = { noHdr with v := (numTo ((bs.drop 0).take 4) 4).setWidth 32 } := ⟨_, rfl⟩
    have HG1 := Lib.hid hg1
    have ok1 : Hid g1.ok := Lib.hid (by rw [hg1]; exact noHdr_ok)
    refine wp_abst (fun w' => Hid (Blk w' w.heap.size 33 Z) ∧ Hid (Blk w' (w.heap.size + 1) 33 g1.cells.toArray) ∧ Below w.heap.size w w') ⟨Lib.hid (hz1.out.far (by show _ ≠ _; simp) _), Lib.hid (by rw [hg1, ← hset_v]; exact hh1.out.set _ _), hb1.setCell (by simp) _⟩ ?_
    clear hz1 hh1 hb1 f0 k0 e0 hg1 hlt1
    rintro w2 ⟨hz2, hh2, hb2⟩
    refine quiet_tail 4 (by kernel_rfl) (by kernel_rfl) ?_
    simp only [List.take_succ_cons, List.take_zero, List.drop_succ_cons, List.drop_zero]
    iterate 4 (go_big_quiet_step (fail))
    refine wpQuiet_nil ?_
    rintro _ ⟨nq, rfl⟩
    have r2 := r4.out.below (below_drewN hb2 nq) (Nat.le_refl _)
    have hh2' := hh2.out.drewN nq
    have hft : 1 + 32 ≤ g1.cells.length := by rw [Hdr.cells_len ok1.out]; omega
    obtain ⟨g2, hg2⟩ : ∃ x : Hdr, x = { g1 with p := (bs.drop 4).take 32 } := ⟨_, rfl⟩
    have HG2 := Lib.hid hg2
    have ok2 : Hid g2.ok := Lib.hid (by rw [hg2]; exact ⟨l4.out, ok1.out.2⟩)
    have hsp : Hid (splice g1.cells 1 (((bs.drop 4).take 32).take 32 |>.map Go.Proofs.Ytndobjlodpkknaa.u8) = g2.cells) := Lib.hid (by rw [List.take_of_length_le (l := (bs.drop 4).take 32) (by rw [l4.out]; omega), hsp_p ok1.out _ l4.out, hg2])
    clear hg2
    refine wp_copy8g (o := ⟨some 19, _, _, _, _, _⟩) rfl (.tmp 16) (.tmp 18) 22 22 rfl 5 Try.underlying22 (by kernel_rfl) 32 32 32 (c - 4) (some ⟨bb, of + 4, none⟩) ((bs.drop 4).take 32) (w.heap.size + 1) 1 rfl rfl l4.out r2 g1.cells _ hh2' 32 rfl hft ?_
    intro w3 hB3 hgr3 hs3
    rw [hsp.out] at hB3
    have hz3 := Lib.hid ((hz2.out.drewN nq).kept hgr3 (by omega))
    have hb3 := (below_drewN hb2 nq).grown hgr3 (below_drewN hb2 nq).size (fun k hk => by injection hk with hk; omega)
    clear hgr3 hs3 hsp hft hh2 hz2 hb2 hh2' r2
    go_upto_region 6 with fail
    refine quiet_tail 4 (by kernel_rfl) (by kernel_rfl) ?_
    simp only [List.take_succ_cons, List.take_zero, List.drop_succ_cons, List.drop_zero, put_some, List.setIfInBounds_toArray, List.set_cons_succ, List.set_cons_zero]
    iterate 4 (go_big_quiet_step (fail))
    refine wpQuiet_nil ?_
    rintro _ ⟨nq2, rfl⟩
    have r2 := r36.out.below (below_drewN hb3 nq2) (Nat.le_refl _)
    have hh2' := hB3.out.drewN nq2
    have hft : 33 + 32 ≤ g2.cells.length := by rw [Hdr.cells_len ok2.out]; omega
    obtain ⟨g3, hg3⟩ : ∃ x : Hdr, x = { g2 with m := (bs.drop 36).take 32 } := ⟨_, rfl⟩
    have HG3 := Lib.hid hg3
    have ok3 : Hid g3.ok := Lib.hid (by rw [hg3]; exact ⟨ok2.out.1, l36.out⟩)
    have hsp : Hid (splice g2.cells 33 (((bs.drop 36).take 32).take 32 |>.map Go.Proofs.Ytndobjlodpkknaa.u8) = g3.cells) := Lib.hid (by rw [List.take_of_length_le (l := (bs.drop 36).take 32) (by rw [l36.out]; omega), hsp_m ok2.out _ l36.out, hg3])
    clear hg3
    refine wp_copy8g (o := ⟨some 24, _, _, _, _, _⟩) rfl (.tmp 21) (.tmp 23) 22 22 rfl 5 Try.underlying22 (by kernel_rfl) 32 32 32 (c - 36) (some ⟨bb, of + 36, none⟩) ((bs.drop 36).take 32) (w.heap.size + 1) 33 rfl rfl l36.out r2 g2.cells _ hh2' 32 rfl hft ?_
    intro w4 hB4 hgr4 hs4
    rw [hsp.out] at hB4
    have hz4 := Lib.hid ((hz3.out.drewN nq2).kept hgr4 (by omega))
    have hb4 := (below_drewN hb3 nq2).grown hgr4 (below_drewN hb3 nq2).size (fun k hk => by injection hk with hk; omega)
    clear hgr4 hs4 hsp hft hB3 hz3 hb3 hh2' r2
    have hlt65 := hB4.out.lt
    have f65 := hB4.out.frozen 65
    have k65 : w4.cell? ⟨w.heap.size + 1, 65, none⟩ = some (.int .u32 (iv32 g3.t)) := by rw [hB4.out.cell, List.getElem?_toArray]; exact hdr_cell_last ok3.out 0
    go_wp2_with fail
    refine (number_any _ 4 (c - 68) _ w4 (r68.out.below hb4 (Nat.le_refl _)) l68.out (by omega)).mono ?_
    rintro e w9 ⟨rfl, hw9⟩
    replace hw9 := hw9.symm
    subst hw9
    have e65 := cut64_32 (numTo ((bs.drop 68).take 4) 4)
    go_upto_region 8 with fail
    obtain ⟨g4, hgn⟩ : ∃ x : Hdr, x = { g3 with t := (numTo ((bs.drop 68).take 4) 4).setWidth 32 } := ⟨_, rfl⟩
    have HG4 := Lib.hid hgn
    have ok4 : Hid g4.ok := Lib.hid (by rw [hgn]; exact ok3.out)
    refine wp_abst (fun w' => Hid (Blk w' w.heap.size 33 Z) ∧ Hid (Blk w' (w.heap.size + 1) 33 g4.cells.toArray) ∧ Below w.heap.size w w') ⟨Lib.hid (hz4.out.far (by show _ ≠ _; simp) _), Lib.hid (by rw [hgn, ← hset_t ok3.out]; exact hB4.out.set _ _), hb4.setCell (by simp) _⟩ ?_
    clear hz4 hB4 hb4 f65 k65 e65 hgn hlt65
    rintro w5 ⟨hz5, hB5, hb5⟩
    have hlt66 := hB5.out.lt
    have f66 := hB5.out.frozen 66
    have k66 : w5.cell? ⟨w.heap.size + 1, 66, none⟩ = some (.int .u32 (iv32 g4.b)) := by rw [hB5.out.cell, List.getElem?_toArray]; exact hdr_cell_last ok4.out 1
    go_wp2_with fail
    refine (number_any _ 4 (c - 72) _ w5 (r72.out.below hb5 (Nat.le_refl _)) l72.out (by omega)).mono ?_
    rintro e w9 ⟨rfl, hw9⟩
    replace hw9 := hw9.symm
    subst hw9
    have e66 := cut64_32 (numTo ((bs.drop 72).take 4) 4)
    go_upto_region 9 with fail
    obtain ⟨g5, hgn⟩ : ∃ x : Hdr, x = { g4 with b := (numTo ((bs.drop 72).take 4) 4).setWidth 32 } := ⟨_, rfl⟩
    have HG5 := Lib.hid hgn
    have ok5 : Hid g5.ok := Lib.hid (by rw [hgn]; exact ok4.out)
    refine wp_abst (fun w' => Hid (Blk w' w.heap.size 33 Z) ∧ Hid (Blk w' (w.heap.size + 1) 33 g5.cells.toArray) ∧ Below w.heap.size w w') ⟨Lib.hid (hz5.out.far (by show _ ≠ _; simp) _), Lib.hid (by rw [hgn, ← hset_b ok4.out]; exact hB5.out.set _ _), hb5.setCell (by simp) _⟩ ?_
    clear hz5 hB5 hb5 f66 k66 e66 hgn hlt66
    rintro w6 ⟨hz6, hB6, hb6⟩
    have hlt67 := hB6.out.lt
    have f67 := hB6.out.frozen 67
    have k67 : w6.cell? ⟨w.heap.size + 1, 67, none⟩ = some (.int .u32 (iv32 g5.n)) := by rw [hB6.out.cell, List.getElem?_toArray]; exact hdr_cell_last ok5.out 2
    go_wp2_with fail
    refine (number_any _ 4 (c - 76) _ w6 (r76.out.below hb6 (Nat.le_refl _)) l76.out (by omega)).mono ?_
    rintro e w9 ⟨rfl, hw9⟩
    replace hw9 := hw9.symm
    subst hw9
    have e67 := cut64_32 (numTo ((bs.drop 76).take 4) 4)
    go_upto_region 10 with fail
    obtain ⟨g6, hgn⟩ : ∃ x : Hdr, x = { g5 with n := (numTo ((bs.drop 76).take 4) 4).setWidth 32 } := ⟨_, rfl⟩
    have HG6 := Lib.hid hgn
    have ok6 : Hid g6.ok := Lib.hid (by rw [hgn]; exact ok5.out)
    refine wp_abst (fun w' => Hid (Blk w' w.heap.size 33 Z) ∧ Hid (Blk w' (w.heap.size + 1) 33 g6.cells.toArray) ∧ Below w.heap.size w w') ⟨Lib.hid (hz6.out.far (by show _ ≠ _; simp) _), Lib.hid (by rw [hgn, ← hset_n ok5.out]; exact hB6.out.set _ _), hb6.setCell (by simp) _⟩ ?_
    clear hz6 hB6 hb6 f67 k67 e67 hgn hlt67
    rintro w7 ⟨hz7, hB7, hb7⟩
    have hg6 : Hid (g6 = hdrOf bs) := Lib.hid (by
      rw [HG6.out, HG5.out, HG4.out, HG3.out, HG2.out, HG1.out, num32_takeK, num32_takeK, num32_takeK, num32_takeK]
      rfl)
    obtain ⟨q, hq⟩ : ∃ q, q = cutAt (some ⟨bb, of, none⟩) c 80 := ⟨_, rfl⟩
    have sl : ∀ w, (Instr.sliceAt 22 (.slice (some ⟨bb, of, none⟩) n c) (some (.int .i64 80)) none none).run Try.prog w = .ok (.slice q (n - 80) (c - 80)) w := fun w => by
      rw [hq]; exact slice_from8 w (some ⟨bb, of, none⟩) n c 80 hn80
    have hrq : Hid (Row8 w q (bs.drop 80)) := Lib.hid (by rw [hq]; exact HR.out.cut (by rw [HN.out]; exact hl))
    have hlq : Hid ((bs.drop 80).length = n - 80) := Lib.hid (by rw [List.length_drop, HN.out])
    have hlt7 := hB7.out.lt
    clear hq r0 r4 r36 r68 r72 r76 l0 l4 l36 l68 l72 l76 q1 q2 q3 q4 q5 q6 z1 z2 z3 z4 z5
    refine region_plan [qq 0, qq 2, qq 3, oo 1, oo 4, oo 5, qq 6, qq 7] (fun W => Blk W (w.heap.size + 1) 33 g6.cells.toArray) (by kernel_rfl) (by kernel_rfl) hB7.out.drew ?_
    refine' plan_quiet (s := 45) (A1 := _) [0, 2, 3] [_, _, _] _ rfl rfl rfl (fun W hW => ?hq1) _ hB7.out.drew (fun _ => ?hr1)
    case hq1 =>
      have rg := fun k => (Blk.drewN hW k).range
      simp only [List.getElem_toArray, List.getElem_cons_zero, List.getElem_cons_succ]
      refine quiet_load_mid rfl 33 (.tmp 5) rfl (w.heap.size + 1) 0 rfl g6.cells _ (fun w' ⟨k, hk⟩ => by rw [hk]; exact rg k) Try.underlying33 rfl (hdr_size ok6.out) ?_
      simp only [put_some, List.setIfInBounds_toArray, List.set_cons_succ, List.set_cons_zero]
      iterate 2 (go_big_quiet_step (fail))
      refine wpQuiet_nil ?_
      rfl
    case hr1 =>
    refine plan_one rfl fun k => ?_
    go_wp2_with fail
    have hbx : Below w7.heap.size w7 ((w7.alloc (.cells #[] 5)).drewN (1 + k)) := below_drewN ((Below.refl _ _).alloc (Nat.le_refl _) _) _
    have hox : Own8 ((w7.alloc (.cells #[] 5)).drewN (1 + k)) w7.heap.size (.slice (some ⟨w7.heap.size, 0, none⟩) 0 0) [] := (own_nothing w7 w7.heap.size (Nat.le_refl _)).drewN _
    refine planQ_normal (And.intro (hB7.out.below hbx hlt7) ?_)
    refine plan_one rfl fun k2 => ?_
    refine wp_append8 (o := ⟨some 44, _, _, _, _, _⟩) rfl (.tmp 41) (.tmp 43) rfl w7.heap.size (.slice (some ⟨w7.heap.size, 0, none⟩) 0 0) [] rfl (hox.drewN k2) q (n - 80) (c - 80) (bs.drop 80) rfl hlq.out ?_ ?_ ?_ w7.heap.size w7 (below_drewN hbx k2) (Nat.le_refl _) ?_
    · exact (hrq.out.below hb7 (Nat.le_refl _)).below (below_drewN hbx k2) (Nat.le_refl _)
    · rw [hlq.out, List.length_nil]; omega
    · exact hbx.size
    intro v8 w8 ho8 hb8 _ _
    rw [List.nil_append] at ho8
    have hB8 := hB7.out.below hb8 hlt7
    have hz8 := hz7.out.below hb8 (by omega)
    have hbw8 := hb7.trans (hb8.mono hb7.size)
    refine planQ_normal (And.intro hB8 ?_)
    refine plan_one rfl fun k3 => ?_
    refine wp_store_blk (o := ⟨none, _, _, _, _, _⟩) rfl 33 (.tmp 2) (.tmp 40) rfl w.heap.size 33 Z g6.cells.toArray rfl rfl (hz8.drewN k3) (by rw [List.size_toArray]; exact hdr_size ok6.out) (by rw [HZ.out, List.size_toArray, List.size_toArray, Hdr.cells_len noHdr_ok, Hdr.cells_len ok6.out]) (Hdr.cells_one _) w.heap.size w (below_drewN hbw8 k3) (Nat.le_refl _) ?_
    intro w9 hR9 hb9 hg9 hs9
    have hB9 : Blk w9 (w.heap.size + 1) 33 g6.cells.toArray := (hB8.drewN k3).kept hg9.out (by omega)
    have ho9 := (ho8.drewN k3).keptB hg9.out (by omega)
    refine planQ_normal (And.intro hB9 ?_)
    refine' plan_quiet (s := 45) (A1 := _) (r := []) [6, 7] [_, _] _ rfl rfl rfl (fun W hW => ?hq2) _ hB9 (fun _ => ?hr2)
    case hq2 =>
      simp only [List.getElem_toArray, List.getElem_cons_zero, List.getElem_cons_succ, put_none, put_some, List.setIfInBounds_toArray, List.set_cons_succ, List.set_cons_zero]
      iterate 2 (go_big_quiet_step (fail))
      refine wpQuiet_nil ?_
      rfl
    case hr2 =>
    refine plan_end fun k9 => NoPanic.normal ?_
    go_wp2
    refine bodyPost_ret (results_cell3 rfl _ _ _ w.heap.size _ g6.cells _ rfl (hR9.out.drewN _) Try.underlying33 rfl (hdr_size ok6.out)) rfl ?_
    rw [HP.out, ← hg6.out]
    exact ⟨v8, rfl, (ho9.mono hb7.size).drewN _, below_drewN hb9 _⟩
end Go.Proofs.Ytndobjlodpkknaa
