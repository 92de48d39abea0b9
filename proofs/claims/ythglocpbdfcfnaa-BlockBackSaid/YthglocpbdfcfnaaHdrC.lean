/- sporran/header.Decode: the walk. -/
import Derived.Test.YthglocpbdfcfnaaHdrB
import Derived.Test.YthglocpbdfcfnaaGA
namespace Go.Proofs.Ythglocpbdfcfnaa
open Go.RowKit

def noHdr : Hdr := ⟨0#32, zeros 32, zeros 32, 0#32, 0#32, 0#32⟩
theorem noHdr_ok : noHdr.ok := ⟨rfl, rfl⟩
/-- the header of the first eighty bytes -/
def hdrOf (bs : List (BitVec 8)) : Hdr := ⟨num32 bs, (bs.drop 4).take 32, (bs.drop 36).take 32, num32 (bs.drop 68), num32 (bs.drop 72), num32 (bs.drop 76)⟩
theorem hdrOf_ok (bs : List (BitVec 8)) (h : 80 ≤ bs.length) : (hdrOf bs).ok := by
  constructor <;> simp [hdrOf] <;> omega
def hdrP (bs : List (BitVec 8)) : Hdr × List (BitVec 8) × Int := if bs.length < 80 then (noHdr, [], 50) else (hdrOf bs, bs.drop 80, 0)
def HdrPost (w : World) (x : Hdr × List (BitVec 8) × Int) (e : Ending) (w' : World) : Prop :=
  ∃ v, e = .returned (.tuple #[.agg x.1.cells.toArray, v, .int .i64 x.2.2]) ∧ Own8 w' w.heap.size v x.2.1 ∧ Below w.heap.size w w'
theorem Hdr.cells_one (h : Hdr) : h.cells.toArray.all (·.oneCell') = true := by
  rw [List.all_toArray, Hdr.cells]
  simp [List.all_append, Value.oneCell']
theorem Hdr.cells_size {h : Hdr} (hk : h.ok) : h.cells.toArray.size = 68 := by rw [List.size_toArray, Hdr.cells_len hk]
theorem zeroHdr : ∀ w, (zeroValue 46).run Try.prog w = .ok (.agg noHdr.cells.toArray) w := zero_of (by kernel_rfl)
theorem builtNo : Try.prog.built 46 [] = some noHdr.cells.toArray := by kernel_rfl

theorem Blk.range {w : World} {g : Nat} {t : TypeId} {cs : List Value} (h : Blk w g t cs.toArray) : w.rangeAt g 0 cs := fun j v hj => by
  rw [Nat.zero_add, h.cell, List.getElem?_toArray]; exact hj
theorem results_cell3 {fn : Func} {p u v : Tmp} {ty : TypeId} (h : fn.results = #[.cell p ty, .tmp u, .tmp v]) (tmps : Array Value) (P : Program) (w : World) (g : Nat) (t : TypeId) (cs : List Value) (d : TypeDesc)
    (hp : tmps.getD p undef = .pointer (some ⟨g, 0, none⟩)) (hg : Blk w g t cs.toArray) (hu : P.underlying ty = some d) (hd : d.isRow = true) (hi : (P.info? ty).map (·.size) = some cs.length) :
    (results fn tmps).run P w = .ok (.tuple #[.agg cs.toArray, tmps.getD u undef, tmps.getD v undef]) w := by
  have hp' : tmps[p]?.getD undef = .pointer (some ⟨g, 0, none⟩) := by simpa using hp
  simp [results, h, hp', asAddr, run_loadVar_mid w g 0 ty cs d hg.range hu hd hi]
theorem Row8.range {w : World} {b o : Nat} {bs : List (BitVec 8)} (h : Row8 w (some ⟨b, o, none⟩) bs) (k n : Nat) : w.rangeAt b (o + k) (((bs.drop k).take n).map u8) := fun j v hj => by
  rw [List.getElem?_map, List.getElem?_take] at hj
  split at hj
  · rw [List.getElem?_drop] at hj
    cases hx : bs[k + j]? with
    | none => rw [hx] at hj; cases hj
    | some x =>
      rw [hx] at hj
      obtain ⟨b', o', e, _, hc⟩ := h (fun e => by rw [e] at hx; cases hx)
      injection e with e
      injection e with e1 e2 _
      subst e1
      subst e2
      rw [Nat.add_assoc, hc _ _ hx]
      simpa using hj
  · cases hj

theorem act_put_none (a : Act) (v : Value) : a.put none v = a := rfl
/-- as w2 below its size -/
def SB (w2 w' : World) : Prop := Below w2.heap.size w2 w'
section
variable {w2 w' : World}
theorem SB.drew (h : SB w2 w') : SB w2 w'.drew := Below.drew h
theorem SB.drewN (h : SB w2 w') (k : Nat) : SB w2 (w'.drewN k) := below_drewN h k
theorem SB.alloc (h : SB w2 w') (o : Obj) : SB w2 (w'.alloc o) := Below.alloc h (Below.size h) o
theorem SB.refl (w2 : World) : SB w2 w2 := Below.refl _ _
end
theorem run_arrayAt32 (a : Option Addr) (w : World) : (Instr.arrayAt 44 (.slice a 32 32)).run Try.prog w = .ok (.pointer a) w := by
  simp [Instr.arrayAt, run_underlying Try.underlying44, go_sem]

set_option maxRecDepth 100000 in
set_option maxHeartbeats 2000000 in
theorem hdrDecode_any (p : Option Addr) (n c : Nat) (bs : List (BitVec 8)) (w : World) (hr : Row8 w p bs) (hn : bs.length = n) (hl : n ≤ c) (hb : c ≤ 9223372036854775807) (hbig : n ≤ 140737488355328) :
    Calls Try.prog 54 #[.slice p n c] w (HdrPost w (hdrP bs)) := by
  have HN := Lib.hid hn
  clear hn
  have hmf : ∀ (fn : Fn) (first cap : Array Value) (w : World), (Instr.makeFunc fn first cap).run Try.prog w = .ok (.func fn first cap) w := fun _ _ _ _ => rfl
  have hsf : ∀ (a : Addr) (fn : Fn) (f c : Array Value) (w : World), (store a (.func fn f c)).run Try.prog w = stored Try.prog w a (.func fn f c) .plain := fun a fn f c w => run_store _ w a _ _ rfl
  have hz := zeroHdr
  have hbn : ∀ w, (Instr.build 46 #[]).run Try.prog w = .ok (.agg noHdr.cells.toArray) w := fun w => run_build w _ _ _ builtNo
  obtain ⟨Z, hZ⟩ : ∃ Z, Z = noHdr.cells.toArray := ⟨_, rfl⟩
  rw [← hZ] at hz
  rw [← hZ] at hbn
  have HZ := Lib.hid hZ
  have hZs : Hid (Z.size = 68) := Lib.hid (by rw [hZ, Hdr.cells_size noHdr_ok])
  clear hZ
  go_enter Try.func54, Try.ntmps54
  go_upto_region 1 with fail
  refine wp_abst (fun w' => w'.cell? ⟨w.heap.size, 0, none⟩ = some (.slice p n c) ∧ Hid (Blk w' (w.heap.size + 1) 46 Z) ∧ Below w.heap.size w w') ⟨?_, Lib.hid (by exact Blk.new2 w _ _ _), ((Below.refl _ _).alloc (Nat.le_refl _) _).alloc (by simp) _⟩ ?_
  · rw [World.cell?_alloc_past _ _ _ (by simp), World.cell?_alloc_at _ _ _ _ rfl]; rfl
  rintro w1 ⟨hc1, hb1, hbel1⟩
  by_cases hs : n < 80
  · have HP : Hid (hdrP bs = (noHdr, [], 50)) := Lib.hid (by unfold hdrP; rw [if_pos (by rw [HN.out]; exact hs)])
    have hsi : (n : Int) < 80 := by omega
    clear hs
    go_wp2_with (with_reducible refine wp_store_blk (o := ⟨none, _, _, _, _, _⟩) ?_ 46 (.tmp 2) (.tmp 11) ?_ (w.heap.size + 1) 46 Z Z ?_ ?_ hb1.out ?_ ?_ ?_ w.heap.size w hbel1 ?_ ?_
                 · rfl
                 · rfl
                 · rfl
                 · rfl
                 · rw [hZs.out]; kernel_rfl
                 · rfl
                 · rw [HZ.out]; exact Hdr.cells_one _
                 · omega
                 intro w2 hb2 hbel2 _ _)
    refine bodyPost_ret (results_cell3 rfl _ _ _ (w.heap.size + 1) _ noHdr.cells _ rfl (by rw [← HZ.out]; exact hb2.out) Try.underlying46 rfl (by kernel_rfl)) rfl ?_
    rw [HP.out]
    exact ⟨_, rfl, Own8.nil _ _, hbel2⟩
  · have hge : ¬ (n : Int) < 80 := by omega
    have hn80 : 80 ≤ n := by omega
    have hHo := hdrOf_ok bs (by rw [HN.out]; exact hn80)
    obtain ⟨h, hh⟩ : ∃ h, h = hdrOf bs := ⟨_, rfl⟩
    have HP : Hid (hdrP bs = (h, bs.drop 80, 0)) := Lib.hid (by unfold hdrP; rw [if_neg (by rw [HN.out]; omega), hh])
    rw [← hh] at hHo
    have HH := Lib.hid hh
    clear hh hs
    obtain ⟨bb, of, rfl, hbl, _⟩ := hr (fun e => by have := HN.out; rw [e] at this; simp at this; omega)
    have hlt1 := hb1.out.lt
    go_upto_region 5 with fail
    refine wp_abst (fun w' => w'.cell? ⟨w.heap.size, 0, none⟩ = some (.slice (some ⟨bb, of, none⟩) n c) ∧ w'.cell? ⟨w1.heap.size, 0, none⟩ = some (.func (.func 81) #[] #[.pointer (some ⟨w.heap.size, 0, none⟩)]) ∧ Hid (Blk w' (w.heap.size + 1) 46 Z) ∧ Below w.heap.size w w' ∧ w1.heap.size < w'.heap.size)
      ⟨?_, ?_, Lib.hid ?_, hbel1.alloc hbel1.size _, by simp⟩ ?_
    · rw [World.cell?_alloc_past _ _ _ (by omega)]; exact hc1
    · rw [World.cell?_alloc_at _ _ _ _ rfl]; rfl
    · exact hb1.out.alloc _
    rintro w2 ⟨hc2, hf2, hb2, hbel2, hlt2⟩
    clear hsf hmf hbn hc1 hb1 hbel1 hbl
    have hr2 := hr.below hbel2 (Nat.le_refl _)
    have hSof : ∀ w', SB w2 w' → w'.cell? ⟨w.heap.size, 0, none⟩ = some (.slice (some ⟨bb, of, none⟩) n c) ∧ w'.cell? ⟨w1.heap.size, 0, none⟩ = some (.func (.func 81) #[] #[.pointer (some ⟨w.heap.size, 0, none⟩)]) ∧ w'.rangeAt bb (of + 4) (h.p.map u8) ∧ w'.rangeAt bb (of + 36) (h.m.map u8) := by
      intro w' hB
      have hr3 := hr2.below hB (Nat.le_refl _)
      refine ⟨(Below.cell hB (p := ⟨w.heap.size, 0, none⟩) (show w.heap.size < w2.heap.size by omega)).trans hc2, (Below.cell hB (p := ⟨w1.heap.size, 0, none⟩) (show w1.heap.size < w2.heap.size by omega)).trans hf2, ?_, ?_⟩
      · rw [HH.out]; exact hr3.range 4 32
      · rw [HH.out]; exact hr3.range 36 32
    have numC : ∀ (at0 : Nat) (at1 : Int) (x : BitVec 32), at1 = (at0 : Int) → at0 + 4 ≤ n → num32 (bs.drop at0) = x → ∀ W, SB w2 W → ∀ k, Calls Try.prog 82 #[.int .i64 at1, .pointer (some ⟨w1.heap.size, 0, none⟩)] (W.drewN k) fun e w'' => e = .returned (u32 x) ∧ ∃ m, w'' = W.drewN m := by
      intro at0 at1 x e1 h1 e2 W hW k
      subst e1
      subst e2
      have hB := hW.drewN k
      exact (num_any at0 w.heap.size w1.heap.size bb of n c bs (W.drewN k) (hSof _ hB).1 (hSof _ hB).2.1 (hr2.below hB (Nat.le_refl _)) HN.out h1 hl hb).mono fun _ _ ⟨he, m, hm⟩ => ⟨he, k + m, by rw [hm, World.drewN_drewN]⟩
    have partC : ∀ (at0 m0 : Nat) (at1 m1 : Int), at1 = (at0 : Int) → m1 = (m0 : Int) → at0 + m0 ≤ n → 0 < m0 → ∀ W, SB w2 W → ∀ k, Calls Try.prog 81 #[.int .i64 at1, .int .i64 m1, .pointer (some ⟨w.heap.size, 0, none⟩)] (W.drewN k) fun e w'' => e = .returned (.slice (some ⟨bb, of + at0, none⟩) m0 m0) ∧ ∃ m, w'' = W.drewN m := by
      intro at0 m0 at1 m1 e1 e2 h1 h2 W hW k
      subst e1
      subst e2
      exact (part_any at0 m0 w.heap.size bb of n c (W.drewN k) (hSof _ (hW.drewN k)).1 h1 hl hb h2).mono fun _ _ ⟨he, hm⟩ => ⟨he, k, hm⟩
    have M0 := numC 0 0 h.v rfl (by omega) (by rw [HH.out]; rfl)
    have M1 := numC 68 68 h.t rfl (by omega) (by rw [HH.out]; rfl)
    have M2 := numC 72 72 h.b rfl (by omega) (by rw [HH.out]; rfl)
    have M3 := numC 76 76 h.n rfl (by omega) (by rw [HH.out]; rfl)
    have L0 := partC 4 32 4 32 rfl rfl (by omega) (by omega)
    have L1 := partC 36 32 36 32 rfl rfl (by omega) (by omega)
    clear numC partC
    refine' early_alloc 17 (by kernel_rfl) (by kernel_rfl) 35 rfl (by kernel_rfl) 7 46 _ rfl rfl rfl rfl (.agg Z) hz (SB w2) (SB.refl _).drew ((SB.refl _).drew.alloc _) _ ?hWalk ?hTail
    case hWalk =>
      intro W hW
      obtain ⟨hcW, hfW, R4, R36⟩ := hSof W hW
      have N0 := M0 W hW
      have N1 := M1 W hW
      have N2 := M2 W hW
      have N3 := M3 W hW
      have P0 := L0 W hW
      have P1 := L1 W hW
      have hAt := run_arrayAt32
      simp only [List.take_succ_cons, List.take_zero]
      iterate 2 (go_big_quiet_step (exact N0 _))
      iterate 3 (go_big_quiet_step (exact P0 _))
      refine quiet_load_mid rfl 44 (.tmp 18) rfl bb (of + 4) rfl (h.p.map u8) _ (fun w' ⟨k, hk⟩ => by rw [hk]; exact R4) Try.underlying44 rfl (by rw [List.length_map, hHo.1]; kernel_rfl) ?_
      simp only [act_put_some, List.setIfInBounds_toArray, List.set_cons_succ, List.set_cons_zero]
      iterate 3 (go_big_quiet_step (exact P1 _))
      refine quiet_load_mid rfl 44 (.tmp 22) rfl bb (of + 36) rfl (h.m.map u8) _ (fun w' ⟨k, hk⟩ => by rw [hk]; exact R36) Try.underlying44 rfl (by rw [List.length_map, hHo.2]; kernel_rfl) ?_
      simp only [act_put_some, List.setIfInBounds_toArray, List.set_cons_succ, List.set_cons_zero]
      iterate 2 (go_big_quiet_step (exact N1 _))
      iterate 2 (go_big_quiet_step (exact N2 _))
      iterate 2 (go_big_quiet_step (exact N3 _))
      refine quiet_build rfl 46 #[(0, .tmp 15), (1, .tmp 19), (2, .tmp 23), (3, .tmp 25), (4, .tmp 27), (5, .tmp 29)] rfl h.cells.toArray ?_ ?_
      · simp only [List.map_toArray, List.map_cons, List.map_nil]
        exact built_hdr h hHo
      simp only [act_put_some, List.setIfInBounds_toArray, List.set_cons_succ, List.set_cons_zero]
      refine wpQuiet_nil ?_
      rfl
    case hTail =>
      intro nq
      simp only [act_put_some, List.setIfInBounds_toArray, List.set_cons_succ, List.set_cons_zero]
      have HS : Hid (h.cells.length = 68) := Lib.hid (Hdr.cells_len hHo)
      obtain ⟨w3, hw3⟩ : ∃ w3, w3 = (w2.drew.alloc (.cells (Value.agg Z).cells 46)).drewN nq := ⟨_, rfl⟩
      have hk3 : Blk w3 w2.heap.size 46 Z := by rw [hw3]; exact Blk.new w2.drew _ _
      have hB3 : SB w2 w3 := by rw [hw3]; exact ((SB.refl _).drew.alloc _).drewN _
      rw [← hw3]
      clear hw3 M0 M1 M2 M3 L0 L1
      have hcell3 := (hSof w3 hB3).1
      have hb3 := Lib.hid (hb2.out.below hB3 (by omega))
      have hbel3 := hbel2.trans (hB3.mono hbel2.size)
      have hr3 := hr2.below hB3 (Nat.le_refl _)
      have hsz2 := hbel2.size
      clear hSof hc2 hf2 hb2 hr2
      refine wp_store_blk (o := ⟨none, _, _, _, _, _⟩) rfl 46 (.tmp 7) (.tmp 30) rfl w2.heap.size 46 Z h.cells.toArray rfl rfl hk3 (by rw [List.size_toArray, HS.out]; kernel_rfl) (hZs.out.trans (by rw [List.size_toArray, HS.out])) (Hdr.cells_one _) w2.heap.size w3 (Below.refl _ _) (Nat.le_refl _) ?_
      intro w4 hb4 hbel4 _ _
      rw [act_put_none]
      have hcell4 : w4.cell? ⟨w.heap.size, 0, none⟩ = some (.slice (some ⟨bb, of, none⟩) n c) := (Below.cell hbel4 (p := ⟨w.heap.size, 0, none⟩) (show w.heap.size < w2.heap.size by omega)).trans hcell3
      have hb5 := Lib.hid (hb3.out.below hbel4 (by omega))
      have hbw4 := hbel3.trans (hbel4.mono hsz2)
      have hr4 := hr.below hbw4 (Nat.le_refl _)
      have hdr := hr4.drop (k := 80) (c := c) (by rw [HN.out]; exact hl)
      have hld : Hid ((bs.drop 80).length = n - 80) := Lib.hid (by rw [List.length_drop, HN.out])
      have hge2 : (80 : Int) ≤ (n : Int) := by omega
      have hn2 : (n : Int) ≤ (c : Int) := by omega
      clear hcell3 hb3 hbel3 hr3 hk3 hbel4
      have hcl : Hid (c ≤ 9223372036854775807) := Lib.hid hb
      go_upto_region 6 with fail
      have hdw : ∀ q, (c = 80 → q = some ⟨bb, of, none⟩) → (c ≠ 80 → q = some ⟨bb, of + 80, none⟩) → Row8 w4 q (bs.drop 80) := by
        intro q h1 h2
        by_cases hc80 : c = 80
        · rw [if_pos hc80] at hdr; rw [h1 hc80]; exact hdr
        · rw [if_neg hc80, Option.map_some, Addr.add_lit] at hdr; rw [h2 hc80]; exact hdr
      clear hdr
      by_cases hc80 : c = 80
      · have hdr := hdw _ (fun _ => rfl) (fun h => absurd hc80 h)
        clear hdw
        refine' early_op 3 (by kernel_rfl) (by kernel_rfl) 35 rfl (by kernel_rfl) _ rfl rfl (SB w4) (fun p W => Own8 W w4.heap.size p (bs.drop 80) ∧ SB w4 W) (SB.refl _).drew (fun _ _ hR => hR.2) _ ?hWalk ?hX ?hTail
        case hWalk =>
          intro W hW
          have hcW : W.cell? ⟨w.heap.size, 0, none⟩ = some (.slice (some ⟨bb, of, none⟩) n c) := (Below.cell hW (p := ⟨w.heap.size, 0, none⟩) (show w.heap.size < w4.heap.size by have := hb5.out.lt; omega)).trans hcell4
          have hrW : W.rangeAt w2.heap.size 0 h.cells := (Blk.below hb4.out hW hb4.out.lt).range
          simp only [List.take_succ_cons, List.take_zero]
          refine quiet_load_mid rfl 46 (.tmp 7) rfl w2.heap.size 0 rfl h.cells _ (fun w' ⟨k, hk⟩ => by rw [hk]; exact hrW) Try.underlying46 rfl (by rw [HS.out]; kernel_rfl) ?_
          simp only [act_put_some, List.setIfInBounds_toArray, List.set_cons_succ, List.set_cons_zero]
          iterate 2 (go_big_quiet_step (fail))
          refine wpQuiet_nil ?_
          rfl
        case hX =>
          intro k
          simp [go_sem]
          refine (clone_any (some ⟨bb, of, none⟩) (n - 80) (0) (bs.drop 80) (w4.drewN (1 + k)) (hdr.below (below_drewN (Below.refl _ _) _) (Nat.le_refl _)) hld.out (by omega) (fun h => by cases h)).mono ?_
          rintro e w' ⟨v, rfl, ho, hb⟩
          exact ⟨v, rfl, ho, (below_drewN (Below.refl _ _) _).trans hb⟩
        case hTail =>
          rintro v W k ⟨hov, hBW⟩
          simp only [List.drop_succ_cons, List.drop_zero, act_put_some, List.setIfInBounds_toArray, List.set_cons_succ, List.set_cons_zero]
          have hlt4 := hb5.out.lt
          have hBk : SB w4 (W.drewN k) := hBW.drewN k
          have hbW : Blk (W.drewN k) (w.heap.size + 1) 46 Z := hb5.out.below hBk hlt4
          have hovk : Own8 (W.drewN k) w4.heap.size v (bs.drop 80) := hov
          generalize W.drewN k = w5 at *
          have hbw5 := hbw4.trans (hBk.mono hbw4.size)
          refine wp_store_blk (o := ⟨none, _, _, _, _, _⟩) rfl 46 (.tmp 2) (.tmp 31) rfl (w.heap.size + 1) 46 Z h.cells.toArray rfl rfl hbW (by rw [List.size_toArray, HS.out]; kernel_rfl) (hZs.out.trans (by rw [List.size_toArray, HS.out])) (Hdr.cells_one _) w.heap.size w hbw5 (by omega) ?_
          intro w6 hb6 hbel6 hg6 _
          rw [act_put_none]
          have hov6 : Own8 w6 w4.heap.size v (bs.drop 80) := hovk.kept hg6.out (by
            cases hvo : v.ownBlock with
            | none => exact .inl rfl
            | some q =>
              refine .inr fun e => ?_
              injection e with e
              have := (World.ownsRow.lt hovk q hvo).1
              omega)
          go_wp2
          refine bodyPost_ret (results_cell3 rfl _ _ _ (w.heap.size + 1) _ h.cells _ rfl hb6.out Try.underlying46 rfl (by rw [HS.out]; kernel_rfl)) rfl ?_
          rw [HP.out]
          exact ⟨v, rfl, hov6.mono hbw4.size, hbel6⟩
      · have hdr := hdw _ (fun h => absurd h hc80) (fun _ => rfl)
        clear hdw
        refine' early_op 3 (by kernel_rfl) (by kernel_rfl) 35 rfl (by kernel_rfl) _ rfl rfl (SB w4) (fun p W => Own8 W w4.heap.size p (bs.drop 80) ∧ SB w4 W) (SB.refl _).drew (fun _ _ hR => hR.2) _ ?hWalk ?hX ?hTail
        case hWalk =>
          intro W hW
          have hcW : W.cell? ⟨w.heap.size, 0, none⟩ = some (.slice (some ⟨bb, of, none⟩) n c) := (Below.cell hW (p := ⟨w.heap.size, 0, none⟩) (show w.heap.size < w4.heap.size by have := hb5.out.lt; omega)).trans hcell4
          have hrW : W.rangeAt w2.heap.size 0 h.cells := (Blk.below hb4.out hW hb4.out.lt).range
          simp only [List.take_succ_cons, List.take_zero]
          refine quiet_load_mid rfl 46 (.tmp 7) rfl w2.heap.size 0 rfl h.cells _ (fun w' ⟨k, hk⟩ => by rw [hk]; exact hrW) Try.underlying46 rfl (by rw [HS.out]; kernel_rfl) ?_
          simp only [act_put_some, List.setIfInBounds_toArray, List.set_cons_succ, List.set_cons_zero]
          iterate 2 (go_big_quiet_step (fail))
          refine wpQuiet_nil ?_
          rfl
        case hX =>
          intro k
          simp [go_sem]
          refine (clone_any (some ⟨bb, of + 80, none⟩) (n - 80) (c - 80) (bs.drop 80) (w4.drewN (1 + k)) (hdr.below (below_drewN (Below.refl _ _) _) (Nat.le_refl _)) hld.out (by omega) (fun h => by cases h)).mono ?_
          rintro e w' ⟨v, rfl, ho, hb⟩
          exact ⟨v, rfl, ho, (below_drewN (Below.refl _ _) _).trans hb⟩
        case hTail =>
          rintro v W k ⟨hov, hBW⟩
          simp only [List.drop_succ_cons, List.drop_zero, act_put_some, List.setIfInBounds_toArray, List.set_cons_succ, List.set_cons_zero]
          have hlt4 := hb5.out.lt
          have hBk : SB w4 (W.drewN k) := hBW.drewN k
          have hbW : Blk (W.drewN k) (w.heap.size + 1) 46 Z := hb5.out.below hBk hlt4
          have hovk : Own8 (W.drewN k) w4.heap.size v (bs.drop 80) := hov
          generalize W.drewN k = w5 at *
          have hbw5 := hbw4.trans (hBk.mono hbw4.size)
          refine wp_store_blk (o := ⟨none, _, _, _, _, _⟩) rfl 46 (.tmp 2) (.tmp 31) rfl (w.heap.size + 1) 46 Z h.cells.toArray rfl rfl hbW (by rw [List.size_toArray, HS.out]; kernel_rfl) (hZs.out.trans (by rw [List.size_toArray, HS.out])) (Hdr.cells_one _) w.heap.size w hbw5 (by omega) ?_
          intro w6 hb6 hbel6 hg6 _
          rw [act_put_none]
          have hov6 : Own8 w6 w4.heap.size v (bs.drop 80) := hovk.kept hg6.out (by
            cases hvo : v.ownBlock with
            | none => exact .inl rfl
            | some q =>
              refine .inr fun e => ?_
              injection e with e
              have := (World.ownsRow.lt hovk q hvo).1
              omega)
          go_wp2
          refine bodyPost_ret (results_cell3 rfl _ _ _ (w.heap.size + 1) _ h.cells _ rfl hb6.out Try.underlying46 rfl (by rw [HS.out]; kernel_rfl)) rfl ?_
          rw [HP.out]
          exact ⟨v, rfl, hov6.mono hbw4.size, hbel6⟩
end Go.Proofs.Ythglocpbdfcfnaa
