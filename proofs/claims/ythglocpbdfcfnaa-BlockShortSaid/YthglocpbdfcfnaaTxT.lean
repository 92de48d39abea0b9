/- The reader of transactions: an input, an output. -/
import Derived.Test.YthglocpbdfcfnaaTxS
import Derived.Test.YthglocpbdfcfnaaGB
namespace Go.Proofs.Ythglocpbdfcfnaa
open Go Go.RowKit
set_option linter.unusedVariables false

theorem RdP.cases {α : Type} {B g : Nat} {w : World} {p : Pz α} {s : Bs} {V : World → α → Value → Prop} {e : Ending} {w' : World} (h : RdP B g w p s V e w') :
    (∃ a r, Hid (p s = .ok (a, r)) ∧ ∃ v, e = .returned v ∧ V w' a v ∧ Hid (RdAt B g w' r) ∧ Hid (Stays (· = g) w w')) ∨ (∃ k, Hid (p s = .error k) ∧ e = .panicked [{ v := .iface 28 (.int .i64 k), recovered := false }] ∧ Hid (Stays (· = g) w w')) := by
  unfold RdP at h
  cases hz : p s with
  | error k => rw [hz] at h; exact .inr ⟨k, Lib.hid rfl, h.1, Lib.hid h.2⟩
  | ok x =>
    obtain ⟨a, r⟩ := x
    rw [hz] at h
    obtain ⟨v, h1, h2, h3, h4⟩ := h
    exact .inl ⟨a, r, Lib.hid rfl, v, h1, h2, Lib.hid h3, Lib.hid h4⟩
theorem asFn {α : Type} (p : List α) (n : Nat) (h : p.length = n) : ∃ x : Fin n → α, p = List.ofFn x := by
  subst h
  exact ⟨fun i => p[i], List.ofFn_getElem.symm⟩
def ZIn : Array Value := (List.replicate 32 (Value.int .u8 0) ++ [Value.int .u32 0, Value.slice none 0 0, Value.int .u32 0, Value.slice none 0 0]).toArray
theorem ZIn_size : ZIn.size = 36 := by rfl
theorem zIn (w : World) : (zeroValue 67).run Try.prog w = .ok (.agg ZIn) w := zero_of (by kernel_rfl) w
theorem zOut (w : World) : (zeroValue 61).run Try.prog w = .ok (.agg #[.int .i64 0, .slice none 0 0]) w := zero_of (by kernel_rfl) w
/-- an input of id and index alone -/
def inCells (id : Bs) (ix : BitVec 32) (sc sq wi : Value) : List Value := hCells id ++ [u32 ix, sc, sq, wi]
theorem inCells_len {id : Bs} (h : id.length = 32) (ix : BitVec 32) (sc sq wi : Value) : (inCells id ix sc sq wi).length = 36 := by simp [inCells, hCells, h]
theorem built_pt (id : Bs) (h : id.length = 32) (ix : BitVec 32) : Try.prog.built 64 [(0, .agg (hCells id).toArray), (1, u32 ix)] = some (hCells id ++ [u32 ix]).toArray := by
  obtain ⟨x, rfl⟩ := asFn id 32 h
  kernel_rfl
theorem built_in (id : Bs) (h : id.length = 32) (ix : BitVec 32) : Try.prog.built 67 [(0, .agg (hCells id ++ [u32 ix]).toArray)] = some (inCells id ix (.slice none 0 0) (.int .u32 0) (.slice none 0 0)).toArray := by
  obtain ⟨x, rfl⟩ := asFn id 32 h
  kernel_rfl
theorem inCells_one {id : Bs} {ix : BitVec 32} {sc sq wi : Value} (h1 : sc.oneCell' = true) (h2 : sq.oneCell' = true) (h3 : wi.oneCell' = true) : (inCells id ix sc sq wi).toArray.all (·.oneCell') = true := by
  rw [List.all_toArray, inCells, hCells, List.all_eq_true]
  intro v hv
  rcases List.mem_append.1 hv with hv | hv
  · obtain ⟨b, _, rfl⟩ := List.mem_map.1 hv
    rfl
  · simp only [List.mem_cons, List.not_mem_nil, or_false] at hv
    rcases hv with rfl | rfl | rfl | rfl
    · rfl
    · exact h1
    · exact h2
    · exact h3
theorem inCells_at {id : Bs} (h : id.length = 32) (ix : BitVec 32) (sc sq wi : Value) (j : Nat) : (inCells id ix sc sq wi)[32 + j]? = [u32 ix, sc, sq, wi][j]? := by
  unfold inCells
  have hl : (hCells id).length = 32 := by simp [hCells, h]
  rw [List.getElem?_append_right (by omega), hl, Nat.add_sub_cancel_left]
theorem inCells_set (id : Bs) (h : id.length = 32) (ix : BitVec 32) (sc sq wi v : Value) : ((inCells id ix sc sq wi).toArray.setIfInBounds 33 v = (inCells id ix v sq wi).toArray) ∧ ((inCells id ix sc sq wi).toArray.setIfInBounds 34 v = (inCells id ix sc v wi).toArray) ∧ ((inCells id ix sc sq wi).toArray.setIfInBounds 35 v = (inCells id ix sc sq v).toArray) := by
  have hl : (hCells id).length = 32 := by simp [hCells, h]
  unfold inCells
  refine ⟨?_, ?_, ?_⟩ <;> rw [List.setIfInBounds_toArray, List.set_append_right _ _ (by omega), hl] <;> rfl
theorem row_range {w : World} {b o : Nat} {bs : Bs} (h : Row8 w (some ⟨b, o, none⟩) bs) : w.rangeAt b o (hCells bs) := fun j v hj => by
  rw [hCells, List.getElem?_map] at hj
  cases hx : bs[j]? with
  | none => rw [hx] at hj; cases hj
  | some x =>
    rw [hx] at hj
    injection hj with hj
    obtain ⟨b', o', e, _, hc⟩ := h (fun e => by rw [e] at hx; cases hx)
    injection e with e
    injection e with e1 e2
    subst e1 e2
    rw [hc j x hx, ← hj]

theorem run_arr32 (w : World) (b o c : Nat) : (Instr.arrayAt 44 (.slice (some ⟨b, o, none⟩) 32 c)).run Try.prog w = .ok (.pointer (some ⟨b, o, none⟩)) w := by
  simp [Instr.arrayAt, run_underlying Try.underlying44]
/-- what stays while a reader in block g moves on, and new memory is made -/
def Stable (g : Nat) (F : World → Prop) : Prop := ∀ W W', F W → Stays (· = g) W W' → F W'
theorem Stable.and {g : Nat} {F F' : World → Prop} (h : Stable g F) (h' : Stable g F') : Stable g (fun W => F W ∧ F' W) := fun W W' hF hs => ⟨h W W' hF.1 hs, h' W W' hF.2 hs⟩
theorem Stable.blk {g z : Nat} {t : TypeId} {cs : Array Value} (h : z ≠ g) : Stable g (fun W => Blk W z t cs) := fun W W' hF hs => hF.stays hs h
theorem Stable.dat {B g : Nat} {v : Value} {s : Bs} : Stable g (fun W => Dat B g W v s) := fun W W' hF hs => hF.stays hs fun k hk => .inl hk
theorem Stable.stays {g : Nat} (w : World) : Stable g (fun W => Stays (· = g) w W) := fun W W' hF hs => hF.trans hs fun k _ hk => hk
theorem Stable.fut {g : Nat} {F : World → Prop} (h : Stable g F) {W W' : World} (hF : F W) (hb : Below W.heap.size W W') : F W' := h W W' hF (Stays.of_below hb (Nat.le_refl _) _)
theorem Dat.range {B g : Nat} {w : World} {b o n c : Nat} {bs : Bs} (h : Dat B g w (.slice (some ⟨b, o, none⟩) n c) bs) : w.rangeAt b o (hCells bs) := by
  obtain ⟨p, n', c', e, _, _, _, hr, _⟩ := h.open
  injection e with e
  subst e
  exact row_range hr
theorem sep_one {B z : Nat} {Ts : List TypeId} {T : TypeId} {cs : Array Value} {w : World} (h : Blk w z T cs) (hT : T ∉ Ts) : Sep B Ts w (· = z) := fun k hk => .inr ⟨T, cs, (show k = z from hk) ▸ h, hT⟩
theorem rw_one {B g z : Nat} {T : TypeId} {cs : Array Value} {w : World} (h : Blk w z T cs) (hB : B ≤ z) (hT : T ≠ 5) : Rw B g w (· = z) := fun k hk => .inr ⟨(show k = z from hk) ▸ hB, T, cs, (show k = z from hk) ▸ h, hT⟩
/-- behind the first statement of readIn -/
def InMid (B g : Nat) (w : World) (s : Bs) (e : Exit) (a : Act) (W : World) : Prop := match e with
  | .normal => ∃ id r1 ix r2 z3, Hid (takeZ 32 s = .ok (id, r1)) ∧ Hid (numZ 4 r1 = .ok (ix, r2)) ∧ Hid (id.length = 32) ∧ Hid (RdAt B g W r2) ∧ Hid (Stays (· = g) w W) ∧ Hid (Blk W w.heap.size 67 ZIn) ∧ Hid (Blk W z3 67 (inCells id (ix.setWidth 32) (.slice none 0 0) (.int .u32 0) (.slice none 0 0)).toArray) ∧ Hid (w.heap.size < z3) ∧
      ∃ u1 u4 u5 u6 u7 u8 u9 u10 u11 u12 u13 u14 u15 u16 u17 u18 u19 u20, a = ⟨#[.pointer (some ⟨g, 0, none⟩), u1, .pointer (some ⟨w.heap.size, 0, none⟩), .pointer (some ⟨z3, 0, none⟩), u4, u5, u6, u7, u8, u9, u10, u11, u12, u13, u14, u15, u16, u17, u18, u19, u20], []⟩
  | .panic c => ∃ k, Hid (inZ s = .error k) ∧ c = [{ v := .iface 28 (.int .i64 k), recovered := false }] ∧ Hid (Stays (· = g) w W) ∧ a.defers = []
  | _ => False
theorem InMid.put {B g : Nat} {w : World} {s : Bs} (c : List PanicEntry) (a : Act) (d : Option Nat) (v : Value) (W : World) (h : InMid B g w s (.panic c) (a.put d v) W) : InMid B g w s (.panic c) a W := by
  obtain ⟨k, h1, h2, h3, h4⟩ := h
  exact ⟨k, h1, h2, h3, by cases a; cases d <;> exact h4⟩

set_option maxRecDepth 100000 in
set_option maxHeartbeats 8000000 in
theorem rdIn_any (B g : Nat) (w : World) (s : Bs) (h : RdAt B g w s) :
    Calls Try.prog 70 #[.pointer (some ⟨g, 0, none⟩)] w (RdP B g w inZ s fun w' a v => ∃ cs, CellV v cs ∧ InO B w' a cs) := by
  have hgB : g < B := h.elim fun v h => h.2.2.2.1
  have hBw : B ≤ w.heap.size := h.elim fun v h => h.2.2.2.2
  have hz := zIn
  have HR1 := Lib.hid (h.fut (below_new w (.cells ZIn 67)))
  have HF1 : Hid (Stays (· = g) w (w.alloc (.cells ZIn 67)) ∧ Blk (w.alloc (.cells ZIn 67)) w.heap.size 67 ZIn) := Lib.hid ⟨Stays.of_below (below_new w _) (Nat.le_refl _) _, Blk.new w 67 ZIn⟩
  have SF0 : Hid (Stable g (fun W => Stays (· = g) w W ∧ Blk W w.heap.size 67 ZIn)) := Lib.hid ((Stable.stays w).and (Stable.blk (by omega)))
  clear h
  go_enter Try.func70, Try.ntmps70
  go_upto_region 1 with fail
  generalize w.alloc (.cells ZIn 67) = w1 at *
  refine Code.wp_mono (Q := InMid B g w s) ?imp ?reg
  case reg =>
    have hR := HR1.out.fut (below_draws w1 1)
    have SF := SF0
    have hF := SF.out.fut HF1.out (below_draws w1 1)
    refine region_treeP (.qs [0, 4] (.two 1 (.qs [2, 3] (.two 5 (.qs [6, 7, 8] (.o 9 (.o 10 (.done)))) 9 (.o 5 (.qs [6, 7, 8] (.o 10 (.done)))))) 9 (.o 1 (.qs [2, 3] (.o 5 (.qs [6, 7, 8] (.o 10 (.done)))))))) (fun W => Stays (· = g) w W ∧ Blk W w.heap.size 67 ZIn) (by kernel_rfl) (by kernel_rfl) (fun c a d v W h => InMid.put c a d v W h) hF ?_
    refine' tree_quiet (s := 21) (A1 := _) [0, 4] [_, _] _ rfl rfl rfl (fun W hW => ?hq1) _ hF (fun _ => ?hr1)
    case hq1 =>
      try simp only [List.getElem_toArray, List.getElem_cons_zero, List.getElem_cons_succ]
      iterate 2 (go_big_quiet_step (fail))
      refine wpQuiet_nil ?_
      rfl
    case hr1 =>
    clear HR1 HF1 SF0
    replace hR : RdAt B g w1.drew s := hR
    replace hF : Stays (· = g) w w1.drew ∧ Blk w1.drew w.heap.size 67 ZIn := hF
    generalize w1.drew = w2 at *
    refine tree_two rfl rfl (fun k1 => ?gA) (fun k1 => ?gB)
    case gA =>
      replace hR := hR.fut (below_draws (w2) k1)
      replace hF := SF.out.fut hF (below_draws (w2) k1)
      generalize World.drewN (w2) k1 = W1 at hR hF ⊢
      have hc := rdTake_any B g 32 (by omega) W1 s hR
      have HF := Lib.hid hF
      clear hR hF
      go_wp2_with fail
      refine hc.mono ?_
      intro e W2 h
      rcases h.cases with ⟨id, r1, HT1, v, rfl, ⟨hd, hl⟩, HR, HS⟩ | ⟨kk, HT1, rfl, HS⟩
      case inr =>
        go_wp2_with fail
        exact ⟨kk, Lib.hid (by unfold inZ; rw [Pz.bind_err HT1.out]), rfl, Lib.hid (SF.out _ _ HF.out HS.out).1, rfl⟩
      clear hc h
      have hF := SF.out _ _ HF.out HS.out
      have hR := HR.out
      have HL := Lib.hid hl
      obtain ⟨q, n, c, rfl, hn, hnc, hcm, hr, hp⟩ := hd.open
      obtain ⟨bb, oo, rfl, _, _⟩ := hr (by intro e; rw [e] at hl; cases hl)
      have hn' : n = 32 := by omega
      subst hn'
      replace SF := Lib.hid (SF.out.and (Stable.dat (B := B) (g := g) (v := .slice (some ⟨bb, oo, none⟩) 32 c) (s := id)))
      replace hF := And.intro hF hd
      clear hr hp hn hl HF HS HR hd
      go_wp2_with fail
      refine planQ_normal (Grows.more (fun W => (Stays (· = g) w W ∧ Blk W w.heap.size 67 ZIn) ∧ Dat B g W (.slice (some ⟨bb, oo, none⟩) 32 c) id) (fun W h => h.1) hF ?_)
      refine' tree_quiet (s := 21) (A1 := _) [2, 3] [_, _] _ rfl rfl rfl (fun W hW => ?hq2) _ hF (fun _ => ?hr2)
      case hq2 =>
        have ha := fun w => run_arr32 w bb oo c
        try simp only [List.getElem_toArray, List.getElem_cons_zero, List.getElem_cons_succ]
        iterate 1 (go_big_quiet_step (fail))
        refine quiet_load_mid rfl 44 (.tmp 6) rfl bb oo rfl (hCells id) _ (fun w hw => ?_) Try.underlying44 rfl (by rw [hCells, List.length_map, HL.out]; kernel_rfl) ?_
        · obtain ⟨k, rfl⟩ := hw
          exact (Dat.range hW.2)
        refine wpQuiet_nil ?_
        rfl
      case hr2 =>
      refine tree_two rfl rfl (fun k2 => ?gAA) (fun k2 => ?gAB)
      case gAA =>
        replace hR := hR.fut (below_draws (W2) k2)
        replace hF := SF.out.fut hF (below_draws (W2) k2)
        generalize World.drewN (W2) k2 = W3 at hR hF ⊢
        have hc := rdNum_any B g 4 (by omega) W3 r1 hR
        have HF := Lib.hid hF
        clear hR hF
        go_wp2_with fail
        refine hc.mono ?_
        intro e W4 h
        rcases h.cases with ⟨ix, r2, HT2, v, rfl, hv, HR, HS⟩ | ⟨kk, HT2, rfl, HS⟩
        case inr =>
          go_wp2_with fail
          exact ⟨kk, Lib.hid (by unfold inZ; rw [Pz.bind_ok HT1.out, Pz.bind_err HT2.out]), rfl, Lib.hid (SF.out _ _ HF.out HS.out).1.1, rfl⟩
        clear hc h
        subst hv
        have hF := SF.out _ _ HF.out HS.out
        have hR := HR.out
        clear HF HS HR
        go_wp2_with fail
        refine planQ_normal (Grows.same hF ?_)
        refine' tree_quiet (s := 21) (A1 := _) [6, 7, 8] [_, _, _] _ rfl rfl rfl (fun W hW => ?hq3) _ hF (fun _ => ?hr3)
        case hq3 =>
          have ec := cut64_32 ix
          try simp only [List.getElem_toArray, List.getElem_cons_zero, List.getElem_cons_succ]
          iterate 1 (go_big_quiet_step (fail))
          refine quiet_build rfl 64 #[(0, .tmp 7), (1, .tmp 10)] rfl (hCells id ++ [u32 (ix.setWidth 32)]).toArray ?_ ?_
          · simp only [List.map_toArray, List.map_cons, List.map_nil]
            exact built_pt id HL.out (ix.setWidth 32)
          refine quiet_build rfl 67 #[(0, .tmp 11)] rfl (inCells id (ix.setWidth 32) (.slice none 0 0) (.int .u32 0) (.slice none 0 0)).toArray ?_ ?_
          · simp only [List.map_toArray, List.map_cons, List.map_nil]
            exact built_in id HL.out (ix.setWidth 32)
          refine wpQuiet_nil ?_
          rfl
        case hr3 =>
        refine tree_one rfl fun k3 => ?_
        replace hR := hR.fut (below_draws (W4) k3)
        replace hF := SF.out.fut hF (below_draws (W4) k3)
        generalize World.drewN (W4) k3 = W5 at hR hF ⊢
        have hzz : w.heap.size < W5.heap.size := hF.1.2.lt
        have hA := Blk.new W5 67 ZIn
        have hq := below_new W5 (.cells ZIn 67)
        replace hF := SF.out.fut hF hq
        replace hR := hR.fut hq
        clear hq
        go_wp2_with fail
        generalize W5.alloc (.cells ZIn 67) = W6 at *
        generalize W5.heap.size = z3 at *
        refine planQ_normal (Grows.same hF ?_)
        refine tree_one rfl fun k4 => ?_
        replace hR := hR.fut (below_draws (W6) k4)
        replace hF := SF.out.fut hF (below_draws (W6) k4)
        replace hA := hA.fut (below_draws (W6) k4)
        generalize World.drewN (W6) k4 = W7 at hR hF hA ⊢
        have hone : (inCells id (ix.setWidth 32) (.slice none 0 0) (.int .u32 0) (.slice none 0 0)).toArray.all (·.oneCell') = true := inCells_one rfl rfl rfl
        have hcl : (inCells id (ix.setWidth 32) (.slice none 0 0) (.int .u32 0) (.slice none 0 0)).length = 36 := inCells_len HL.out _ _ _ _
        have HCL := Lib.hid hcl
        have HA := Lib.hid hA
        have HF := Lib.hid hF
        have HR := Lib.hid hR
        have hbr := Below.refl z3 W7
        have hzs := ZIn_size
        have HZS := Lib.hid hzs
        obtain ⟨cs, hcs⟩ : ∃ cs, cs = inCells id (ix.setWidth 32) (.slice none 0 0) (.int .u32 0) (.slice none 0 0) := ⟨_, rfl⟩
        have HCS := Lib.hid hcs
        rw [← hcs] at hone HCL
        have e0 : inCells id (ix.setWidth 32) (.slice none 0 0) (.int .u32 0) (.slice none 0 0) = cs := hcs.symm
        simp only [e0]
        clear hcs hzs hcl hA hF hR e0 hz
        refine wp_store_blk (o := ⟨none, _, _, _, _, _⟩) rfl 67 (.tmp 3) (.tmp 12) rfl z3 67 ZIn cs.toArray rfl rfl HA.out (by rw [List.size_toArray]; exact info_Ins HCL.out) (HZS.out.trans (by rw [List.size_toArray]; exact HCL.out.symm)) hone z3 W7 hbr (Nat.le_refl _) ?_
        intro W9 hB9 hb9 hg9 hs9
        have hst := Stays.of_grown (S := fun k => k = z3) hg9.out (fun k h => by injection h with h; exact h.symm)
        have hrw : Rw B g W7 (· = z3) := rw_one HA.out (by omega) (by decide)
        have hF9 : (Stays (· = g) w W9 ∧ Blk W9 w.heap.size 67 ZIn) ∧ Dat B g W9 (.slice (some ⟨bb, oo, none⟩) 32 c) id := ⟨⟨HF.out.1.1.trans hst fun k h1 h2 => by omega, HF.out.1.2.stays hst (by omega)⟩, HF.out.2.stays hst hrw⟩
        have hR9 := HR.out.stays hst hrw (by omega)
        have hB9' := hB9.out
        rw [HCS.out] at hB9'
        refine planQ_normal (Grows.same hF9 (tree_end fun k9 => ?_))
        exact ⟨id, r1, ix, r2, z3, HT1, HT2, HL, Lib.hid (hR9.fut (below_draws _ _)), Lib.hid (hF9.1.1.drewN _), Lib.hid (hF9.1.2.drewN _), Lib.hid (hB9'.drewN _), Lib.hid hzz, _, _, _, _, _, _, _, _, _, _, _, _, _, _, _, _, _, _, rfl⟩
      case gAB =>
        replace hR := hR.fut (below_draws (W2) k2)
        replace hF := SF.out.fut hF (below_draws (W2) k2)
        generalize World.drewN (W2) k2 = W3 at hR hF ⊢
        have hzz : w.heap.size < W3.heap.size := hF.1.2.lt
        have hA := Blk.new W3 67 ZIn
        have hq := below_new W3 (.cells ZIn 67)
        replace hF := SF.out.fut hF hq
        replace hR := hR.fut hq
        clear hq
        go_wp2_with fail
        generalize W3.alloc (.cells ZIn 67) = W4 at *
        generalize W3.heap.size = z3 at *
        refine planQ_normal (Grows.same hF ?_)
        refine tree_one rfl fun k3 => ?_
        replace hR := hR.fut (below_draws (W4) k3)
        replace hF := SF.out.fut hF (below_draws (W4) k3)
        replace hA := hA.fut (below_draws (W4) k3)
        generalize World.drewN (W4) k3 = W5 at hR hF hA ⊢
        have hc := rdNum_any B g 4 (by omega) W5 r1 hR
        have HF := Lib.hid hF
        have HA := Lib.hid hA
        clear hR hF hA
        go_wp2_with fail
        refine hc.mono ?_
        intro e W6 h
        rcases h.cases with ⟨ix, r2, HT2, v, rfl, hv, HR, HS⟩ | ⟨kk, HT2, rfl, HS⟩
        case inr =>
          go_wp2_with fail
          exact ⟨kk, Lib.hid (by unfold inZ; rw [Pz.bind_ok HT1.out, Pz.bind_err HT2.out]), rfl, Lib.hid (SF.out _ _ HF.out HS.out).1.1, rfl⟩
        clear hc h
        subst hv
        have hF := SF.out _ _ HF.out HS.out
        have hA := HA.out.stays HS.out (by omega)
        have hR := HR.out
        clear HF HS HR HA
        go_wp2_with fail
        refine planQ_normal (Grows.same hF ?_)
        refine' tree_quiet (s := 21) (A1 := _) [6, 7, 8] [_, _, _] _ rfl rfl rfl (fun W hW => ?hq4) _ hF (fun _ => ?hr4)
        case hq4 =>
          have ec := cut64_32 ix
          try simp only [List.getElem_toArray, List.getElem_cons_zero, List.getElem_cons_succ]
          iterate 1 (go_big_quiet_step (fail))
          refine quiet_build rfl 64 #[(0, .tmp 7), (1, .tmp 10)] rfl (hCells id ++ [u32 (ix.setWidth 32)]).toArray ?_ ?_
          · simp only [List.map_toArray, List.map_cons, List.map_nil]
            exact built_pt id HL.out (ix.setWidth 32)
          refine quiet_build rfl 67 #[(0, .tmp 11)] rfl (inCells id (ix.setWidth 32) (.slice none 0 0) (.int .u32 0) (.slice none 0 0)).toArray ?_ ?_
          · simp only [List.map_toArray, List.map_cons, List.map_nil]
            exact built_in id HL.out (ix.setWidth 32)
          refine wpQuiet_nil ?_
          rfl
        case hr4 =>
        refine tree_one rfl fun k4 => ?_
        replace hR := hR.fut (below_draws (W6) k4)
        replace hF := SF.out.fut hF (below_draws (W6) k4)
        replace hA := hA.fut (below_draws (W6) k4)
        generalize World.drewN (W6) k4 = W7 at hR hF hA ⊢
        have hone : (inCells id (ix.setWidth 32) (.slice none 0 0) (.int .u32 0) (.slice none 0 0)).toArray.all (·.oneCell') = true := inCells_one rfl rfl rfl
        have hcl : (inCells id (ix.setWidth 32) (.slice none 0 0) (.int .u32 0) (.slice none 0 0)).length = 36 := inCells_len HL.out _ _ _ _
        have HCL := Lib.hid hcl
        have HA := Lib.hid hA
        have HF := Lib.hid hF
        have HR := Lib.hid hR
        have hbr := Below.refl z3 W7
        have hzs := ZIn_size
        have HZS := Lib.hid hzs
        obtain ⟨cs, hcs⟩ : ∃ cs, cs = inCells id (ix.setWidth 32) (.slice none 0 0) (.int .u32 0) (.slice none 0 0) := ⟨_, rfl⟩
        have HCS := Lib.hid hcs
        rw [← hcs] at hone HCL
        have e0 : inCells id (ix.setWidth 32) (.slice none 0 0) (.int .u32 0) (.slice none 0 0) = cs := hcs.symm
        simp only [e0]
        clear hcs hzs hcl hA hF hR e0 hz
        refine wp_store_blk (o := ⟨none, _, _, _, _, _⟩) rfl 67 (.tmp 3) (.tmp 12) rfl z3 67 ZIn cs.toArray rfl rfl HA.out (by rw [List.size_toArray]; exact info_Ins HCL.out) (HZS.out.trans (by rw [List.size_toArray]; exact HCL.out.symm)) hone z3 W7 hbr (Nat.le_refl _) ?_
        intro W9 hB9 hb9 hg9 hs9
        have hst := Stays.of_grown (S := fun k => k = z3) hg9.out (fun k h => by injection h with h; exact h.symm)
        have hrw : Rw B g W7 (· = z3) := rw_one HA.out (by omega) (by decide)
        have hF9 : (Stays (· = g) w W9 ∧ Blk W9 w.heap.size 67 ZIn) ∧ Dat B g W9 (.slice (some ⟨bb, oo, none⟩) 32 c) id := ⟨⟨HF.out.1.1.trans hst fun k h1 h2 => by omega, HF.out.1.2.stays hst (by omega)⟩, HF.out.2.stays hst hrw⟩
        have hR9 := HR.out.stays hst hrw (by omega)
        have hB9' := hB9.out
        rw [HCS.out] at hB9'
        refine planQ_normal (Grows.same hF9 (tree_end fun k9 => ?_))
        exact ⟨id, r1, ix, r2, z3, HT1, HT2, HL, Lib.hid (hR9.fut (below_draws _ _)), Lib.hid (hF9.1.1.drewN _), Lib.hid (hF9.1.2.drewN _), Lib.hid (hB9'.drewN _), Lib.hid hzz, _, _, _, _, _, _, _, _, _, _, _, _, _, _, _, _, _, _, rfl⟩
    case gB =>
      replace hR := hR.fut (below_draws (w2) k1)
      replace hF := SF.out.fut hF (below_draws (w2) k1)
      generalize World.drewN (w2) k1 = W1 at hR hF ⊢
      have hzz : w.heap.size < W1.heap.size := hF.2.lt
      have hA := Blk.new W1 67 ZIn
      have hq := below_new W1 (.cells ZIn 67)
      replace hF := SF.out.fut hF hq
      replace hR := hR.fut hq
      clear hq
      go_wp2_with fail
      generalize W1.alloc (.cells ZIn 67) = W2 at *
      generalize W1.heap.size = z3 at *
      refine planQ_normal (Grows.same hF ?_)
      refine tree_one rfl fun k2 => ?_
      replace hR := hR.fut (below_draws (W2) k2)
      replace hF := SF.out.fut hF (below_draws (W2) k2)
      replace hA := hA.fut (below_draws (W2) k2)
      generalize World.drewN (W2) k2 = W3 at hR hF hA ⊢
      have hc := rdTake_any B g 32 (by omega) W3 s hR
      have HF := Lib.hid hF
      have HA := Lib.hid hA
      clear hR hF hA
      go_wp2_with fail
      refine hc.mono ?_
      intro e W4 h
      rcases h.cases with ⟨id, r1, HT1, v, rfl, ⟨hd, hl⟩, HR, HS⟩ | ⟨kk, HT1, rfl, HS⟩
      case inr =>
        go_wp2_with fail
        exact ⟨kk, Lib.hid (by unfold inZ; rw [Pz.bind_err HT1.out]), rfl, Lib.hid (SF.out _ _ HF.out HS.out).1, rfl⟩
      clear hc h
      have hF := SF.out _ _ HF.out HS.out
      have hA := HA.out.stays HS.out (by omega)
      have hR := HR.out
      have HL := Lib.hid hl
      obtain ⟨q, n, c, rfl, hn, hnc, hcm, hr, hp⟩ := hd.open
      obtain ⟨bb, oo, rfl, _, _⟩ := hr (by intro e; rw [e] at hl; cases hl)
      have hn' : n = 32 := by omega
      subst hn'
      replace SF := Lib.hid (SF.out.and (Stable.dat (B := B) (g := g) (v := .slice (some ⟨bb, oo, none⟩) 32 c) (s := id)))
      replace hF := And.intro hF hd
      clear hr hp hn hl HF HS HR hd HA
      go_wp2_with fail
      refine planQ_normal (Grows.more (fun W => (Stays (· = g) w W ∧ Blk W w.heap.size 67 ZIn) ∧ Dat B g W (.slice (some ⟨bb, oo, none⟩) 32 c) id) (fun W h => h.1) hF ?_)
      refine' tree_quiet (s := 21) (A1 := _) [2, 3] [_, _] _ rfl rfl rfl (fun W hW => ?hq5) _ hF (fun _ => ?hr5)
      case hq5 =>
        have ha := fun w => run_arr32 w bb oo c
        try simp only [List.getElem_toArray, List.getElem_cons_zero, List.getElem_cons_succ]
        iterate 1 (go_big_quiet_step (fail))
        refine quiet_load_mid rfl 44 (.tmp 6) rfl bb oo rfl (hCells id) _ (fun w hw => ?_) Try.underlying44 rfl (by rw [hCells, List.length_map, HL.out]; kernel_rfl) ?_
        · obtain ⟨k, rfl⟩ := hw
          exact (Dat.range hW.2)
        refine wpQuiet_nil ?_
        rfl
      case hr5 =>
      refine tree_one rfl fun k3 => ?_
      replace hR := hR.fut (below_draws (W4) k3)
      replace hF := SF.out.fut hF (below_draws (W4) k3)
      replace hA := hA.fut (below_draws (W4) k3)
      generalize World.drewN (W4) k3 = W5 at hR hF hA ⊢
      have hc := rdNum_any B g 4 (by omega) W5 r1 hR
      have HF := Lib.hid hF
      have HA := Lib.hid hA
      clear hR hF hA
      go_wp2_with fail
      refine hc.mono ?_
      intro e W6 h
      rcases h.cases with ⟨ix, r2, HT2, v, rfl, hv, HR, HS⟩ | ⟨kk, HT2, rfl, HS⟩
      case inr =>
        go_wp2_with fail
        exact ⟨kk, Lib.hid (by unfold inZ; rw [Pz.bind_ok HT1.out, Pz.bind_err HT2.out]), rfl, Lib.hid (SF.out _ _ HF.out HS.out).1.1, rfl⟩
      clear hc h
      subst hv
      have hF := SF.out _ _ HF.out HS.out
      have hA := HA.out.stays HS.out (by omega)
      have hR := HR.out
      clear HF HS HR HA
      go_wp2_with fail
      refine planQ_normal (Grows.same hF ?_)
      refine' tree_quiet (s := 21) (A1 := _) [6, 7, 8] [_, _, _] _ rfl rfl rfl (fun W hW => ?hq6) _ hF (fun _ => ?hr6)
      case hq6 =>
        have ec := cut64_32 ix
        try simp only [List.getElem_toArray, List.getElem_cons_zero, List.getElem_cons_succ]
        iterate 1 (go_big_quiet_step (fail))
        refine quiet_build rfl 64 #[(0, .tmp 7), (1, .tmp 10)] rfl (hCells id ++ [u32 (ix.setWidth 32)]).toArray ?_ ?_
        · simp only [List.map_toArray, List.map_cons, List.map_nil]
          exact built_pt id HL.out (ix.setWidth 32)
        refine quiet_build rfl 67 #[(0, .tmp 11)] rfl (inCells id (ix.setWidth 32) (.slice none 0 0) (.int .u32 0) (.slice none 0 0)).toArray ?_ ?_
        · simp only [List.map_toArray, List.map_cons, List.map_nil]
          exact built_in id HL.out (ix.setWidth 32)
        refine wpQuiet_nil ?_
        rfl
      case hr6 =>
      refine tree_one rfl fun k4 => ?_
      replace hR := hR.fut (below_draws (W6) k4)
      replace hF := SF.out.fut hF (below_draws (W6) k4)
      replace hA := hA.fut (below_draws (W6) k4)
      generalize World.drewN (W6) k4 = W7 at hR hF hA ⊢
      have hone : (inCells id (ix.setWidth 32) (.slice none 0 0) (.int .u32 0) (.slice none 0 0)).toArray.all (·.oneCell') = true := inCells_one rfl rfl rfl
      have hcl : (inCells id (ix.setWidth 32) (.slice none 0 0) (.int .u32 0) (.slice none 0 0)).length = 36 := inCells_len HL.out _ _ _ _
      have HCL := Lib.hid hcl
      have HA := Lib.hid hA
      have HF := Lib.hid hF
      have HR := Lib.hid hR
      have hbr := Below.refl z3 W7
      have hzs := ZIn_size
      have HZS := Lib.hid hzs
      obtain ⟨cs, hcs⟩ : ∃ cs, cs = inCells id (ix.setWidth 32) (.slice none 0 0) (.int .u32 0) (.slice none 0 0) := ⟨_, rfl⟩
      have HCS := Lib.hid hcs
      rw [← hcs] at hone HCL
      have e0 : inCells id (ix.setWidth 32) (.slice none 0 0) (.int .u32 0) (.slice none 0 0) = cs := hcs.symm
      simp only [e0]
      clear hcs hzs hcl hA hF hR e0 hz
      refine wp_store_blk (o := ⟨none, _, _, _, _, _⟩) rfl 67 (.tmp 3) (.tmp 12) rfl z3 67 ZIn cs.toArray rfl rfl HA.out (by rw [List.size_toArray]; exact info_Ins HCL.out) (HZS.out.trans (by rw [List.size_toArray]; exact HCL.out.symm)) hone z3 W7 hbr (Nat.le_refl _) ?_
      intro W9 hB9 hb9 hg9 hs9
      have hst := Stays.of_grown (S := fun k => k = z3) hg9.out (fun k h => by injection h with h; exact h.symm)
      have hrw : Rw B g W7 (· = z3) := rw_one HA.out (by omega) (by decide)
      have hF9 : (Stays (· = g) w W9 ∧ Blk W9 w.heap.size 67 ZIn) ∧ Dat B g W9 (.slice (some ⟨bb, oo, none⟩) 32 c) id := ⟨⟨HF.out.1.1.trans hst fun k h1 h2 => by omega, HF.out.1.2.stays hst (by omega)⟩, HF.out.2.stays hst hrw⟩
      have hR9 := HR.out.stays hst hrw (by omega)
      have hB9' := hB9.out
      rw [HCS.out] at hB9'
      refine planQ_normal (Grows.same hF9 (tree_end fun k9 => ?_))
      exact ⟨id, r1, ix, r2, z3, HT1, HT2, HL, Lib.hid (hR9.fut (below_draws _ _)), Lib.hid (hF9.1.1.drewN _), Lib.hid (hF9.1.2.drewN _), Lib.hid (hB9'.drewN _), Lib.hid hzz, _, _, _, _, _, _, _, _, _, _, _, _, _, _, _, _, _, _, rfl⟩
  case imp =>
    intro e a W hM
    cases e with
    | normal =>
      obtain ⟨id, r1, ix, r2, z3, HT1, HT2, HL, HR2, HS2, HZ2, HZ3, hzz, u1, u4, u5, u6, u7, u8, u9, u10, u11, u12, u13, u14, u15, u16, u17, u18, u19, u20, rfl⟩ := hM
      have HZZ : Hid (w.heap.size < z3) := hzz
      clear HR1 HF1 SF0
      clear hzz
      go_upto_region 2 with fail
      go_wp2_with fail
      refine (rdText_any B g W r2 HR2.out).mono ?_
      intro e W3 h
      rcases h.cases with ⟨sc, r3, HT3, v3, rfl, ho3, HR3, HS3⟩ | ⟨kk, HT3, rfl, HS3⟩
      case inr =>
        go_wp2_with fail
        exact ⟨rfl, RdP.bad (by unfold inZ; rw [Pz.bind_ok HT1.out, Pz.bind_ok HT2.out, Pz.bind_err HT3.out]) (HS2.out.trans HS3.out fun k _ hk => hk)⟩
      obtain ⟨q3, n3, c3, rfl, _⟩ := Own8.open ho3
      have hB2 := HZ2.out.stays HS3.out (by omega)
      have hB3 := HZ3.out.stays HS3.out (by have := HZZ.out; omega)
      have f33 := hB3.frozen 33
      have c33 := hB3.cell 33
      rw [List.getElem?_toArray, inCells_at HL.out _ _ _ _ 1] at c33
      simp only [List.getElem?_cons_zero, List.getElem?_cons_succ] at c33
      have HB2 := Lib.hid hB2
      have HB3 := Lib.hid hB3
      have HO3 : Hid (Own8 W3 B (.slice q3 n3 c3) sc) := Lib.hid ho3
      clear hB2 hB3 ho3
      go_upto_region 3 with fail
      have hst4 := Stays.set W3 z3 33 (.slice q3 n3 c3)
      have HB4 : Hid (Blk (W3.setCell ⟨z3, 33, none⟩ (.slice q3 n3 c3)) z3 67 (inCells id (ix.setWidth 32) (.slice q3 n3 c3) (.int .u32 0) (.slice none 0 0)).toArray) := Lib.hid (by
        have := HB3.out.set 33 (.slice q3 n3 c3)
        rwa [(inCells_set id HL.out _ _ _ _ _).1] at this)
      have hsp : ∀ Ts : List TypeId, 67 ∉ Ts → Sep B Ts W3 (· = z3) := fun Ts hT => sep_one HB3.out hT
      have HO4 : Hid (Own8 (W3.setCell ⟨z3, 33, none⟩ (.slice q3 n3 c3)) B (.slice q3 n3 c3) sc) := Lib.hid (HO3.out.sep hst4 (hsp _ (by decide)))
      have HR4 : Hid (RdAt B g (W3.setCell ⟨z3, 33, none⟩ (.slice q3 n3 c3)) r3) := Lib.hid (HR3.out.stays hst4 (rw_one HB3.out (by have := HZZ.out; omega) (by decide)) (by have := HZZ.out; omega))
      have HB24 : Hid (Blk (W3.setCell ⟨z3, 33, none⟩ (.slice q3 n3 c3)) w.heap.size 67 ZIn) := Lib.hid (HB2.out.stays hst4 (by have := HZZ.out; omega))
      have HS4 : Hid (Stays (· = g) w (W3.setCell ⟨z3, 33, none⟩ (.slice q3 n3 c3))) := Lib.hid ((HS2.out.trans HS3.out fun k _ hk => hk).trans hst4 fun k h1 h2 => by have := HZZ.out; omega)
      clear hst4 hsp c33 f33 HS2 HR2 HZ2 HZ3 HR3 HS3 HB2 HB3 HO3
      generalize W3.setCell ⟨z3, 33, none⟩ (.slice q3 n3 c3) = W4 at *
      go_wp2_with fail
      refine (rdNum_any B g 4 (by omega) W4 r3 HR4.out).mono ?_
      intro e W5 h
      rcases h.cases with ⟨sq, r4, HT4, v5, rfl, hv5, HR5, HS5⟩ | ⟨kk, HT4, rfl, HS5⟩
      case inr =>
        go_wp2_with fail
        exact ⟨rfl, RdP.bad (by unfold inZ; rw [Pz.bind_ok HT1.out, Pz.bind_ok HT2.out, Pz.bind_ok HT3.out, Pz.bind_err HT4.out]) (HS4.out.trans HS5.out fun k _ hk => hk)⟩
      subst hv5
      have ec := cut64_32 sq
      have hB2 := HB24.out.stays HS5.out (by omega)
      have hB3 := HB4.out.stays HS5.out (by have := HZZ.out; omega)
      have f34 := hB3.frozen 34
      have c34 := hB3.cell 34
      rw [List.getElem?_toArray, inCells_at HL.out _ _ _ _ 2] at c34
      simp only [List.getElem?_cons_zero, List.getElem?_cons_succ] at c34
      have HO5 : Hid (Own8 W5 B (.slice q3 n3 c3) sc) := Lib.hid (HO4.out.sep HS5.out (Sep.low fun k hk => by have : k = g := hk; omega))
      have HB2 := Lib.hid hB2
      have HB3 := Lib.hid hB3
      clear hB2 hB3
      go_upto_region 4 with fail
      obtain ⟨sqv, hsqv⟩ : ∃ v, v = Value.int .u32 (iv32 (sq.setWidth 32)) := ⟨_, rfl⟩
      rw [← hsqv]
      have HQ := Lib.hid hsqv
      clear hsqv ec
      have hst6 := Stays.set W5 z3 34 sqv
      have HB6 : Hid (Blk (W5.setCell ⟨z3, 34, none⟩ sqv) z3 67 (inCells id (ix.setWidth 32) (.slice q3 n3 c3) sqv (.slice none 0 0)).toArray) := Lib.hid (by
        have := HB3.out.set 34 sqv
        rwa [(inCells_set id HL.out _ _ _ _ _).2.1] at this)
      have HO6 : Hid (Own8 (W5.setCell ⟨z3, 34, none⟩ sqv) B (.slice q3 n3 c3) sc) := Lib.hid (HO5.out.sep hst6 (sep_one HB3.out (by decide)))
      have HR6 : Hid (RdAt B g (W5.setCell ⟨z3, 34, none⟩ sqv) r4) := Lib.hid (HR5.out.stays hst6 (rw_one HB3.out (by have := HZZ.out; omega) (by decide)) (by have := HZZ.out; omega))
      have HB26 : Hid (Blk (W5.setCell ⟨z3, 34, none⟩ sqv) w.heap.size 67 ZIn) := Lib.hid (HB2.out.stays hst6 (by have := HZZ.out; omega))
      have HS6 : Hid (Stays (· = g) w (W5.setCell ⟨z3, 34, none⟩ sqv)) := Lib.hid ((HS4.out.trans HS5.out fun k _ hk => hk).trans hst6 fun k h1 h2 => by have := HZZ.out; omega)
      clear hst6 c34 f34 HS4 HB4 HB24 HO4 HR4 HS5 HR5 HO5 HB2 HB3
      generalize W5.setCell ⟨z3, 34, none⟩ sqv = W6 at *
      have l6 := blk_range HB6.out
      have hone : (inCells id (ix.setWidth 32) (.slice q3 n3 c3) sqv (.slice none 0 0)).toArray.all (·.oneCell') = true := inCells_one rfl (by rw [HQ.out]; rfl) rfl
      obtain ⟨cs, hcs⟩ : ∃ cs, cs = inCells id (ix.setWidth 32) (.slice q3 n3 c3) sqv (.slice none 0 0) := ⟨_, rfl⟩
      have hcl : cs.length = 36 := by rw [hcs]; exact inCells_len HL.out _ _ _ _
      rw [← hcs] at l6 hone
      have HCS := Lib.hid hcs
      clear hcs
      have hzs := ZIn_size
      have HZS := Lib.hid hzs
      have HCL := Lib.hid hcl
      have hbr := Below.refl w.heap.size W6
      clear hzs hcl hz
      go_wp2_with (first
        | (with_reducible refine wpList_load_mid (op := ⟨some 20, _, _, _, _, _⟩) ?_ 67 (.tmp 3) ?_ (z3) (0) ?_ (cs) _ (l6) Try.underlying67 ?_ ?_ ?_
           · rfl
           · rfl
           · rfl
           · rfl
           · exact ((info_Ins HCL.out)))
        | (with_reducible refine wp_store_blk (o := ⟨none, _, _, _, _, _⟩) ?_ 67 (.tmp 2) (.tmp 20) ?_ (w.heap.size) 67 (ZIn) (cs.toArray) ?_ ?_ (HB26.out) ?_ ?_ ?_ (w.heap.size) (W6) ?_ ?_ ?_
           · rfl
           · rfl
           · rfl
           · rfl
           · exact (by rw [List.size_toArray]; exact info_Ins HCL.out)
           · exact (HZS.out.trans (by rw [List.size_toArray]; exact HCL.out.symm))
           · exact (hone)
           · exact (hbr)
           · exact (Nat.le_refl _)
           intro W7 hB7 hb7 hg7 hs7))
      refine bodyPost_ret (results_cell1 rfl _ _ _ w.heap.size _ cs _ rfl hB7.out Try.underlying67 rfl (info_Ins HCL.out)) rfl ?_
      have hst7 := Stays.of_grown (S := fun k => k = w.heap.size) hg7.out (fun k h => by injection h with h; exact h.symm)
      have hsp : Sep B [5] W6 (· = w.heap.size) := sep_one HB26.out (by decide)
      refine RdP.ok (by unfold inZ; rw [Pz.bind_ok HT1.out, Pz.bind_ok HT2.out, Pz.bind_ok HT3.out, Pz.bind_ok HT4.out]; rfl) ⟨cs, rfl, .slice q3 n3 c3, .slice none 0 0, ?_, HL.out, HO6.out.sep hst7 hsp, RowO.nil _ _ _ _ _⟩ (HR6.out.stays hst7 (rw_one HB26.out hBw (by decide)) (by omega)) (HS6.out.trans hst7 fun k h1 h2 => by omega)
      rw [HCS.out, HQ.out]
      rfl
    | panic c =>
      obtain ⟨k, hk, rfl, hs, hd⟩ := hM
      exact ⟨hd, RdP.bad hk.out hs.out⟩
    | ret => exact hM.elim
    | exit id => exact hM.elim
    | goto l => exact hM.elim
    | outgrown => exact hM.elim

end Go.Proofs.Ythglocpbdfcfnaa
