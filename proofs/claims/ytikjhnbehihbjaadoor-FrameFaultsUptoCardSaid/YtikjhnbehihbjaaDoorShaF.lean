/- sporranref01.Sum: the walk. -/
import Derived.Test.YtikjhnbehihbjaaDoorShaE
namespace Go.Proofs.YtikjhnbehihbjaaDoor
open Go.RowKit

/-- the state at first -/
def s8First : S8 := ⟨1779033703#32, 3144134277#32, 1013904242#32, 2773480762#32, 1359893119#32, 2600822924#32, 528734635#32, 1541459225#32⟩
/-- the state behind k blocks -/
def blocks (all : List (BitVec 8)) : Nat → S8
  | 0 => s8First
  | k + 1 => (blocks all k).mix ((all.drop (64 * k)).take 64)
/-- a byte of the words -/
def S8.byte (s : S8) (i : Nat) : BitVec 8 := (atS s (i / 4) >>> (24 - 8 * (i % 4))).setWidth 8
def S8.hashTo (s : S8) (k : Nat) : List (BitVec 8) := (List.range k).map s.byte
/-- the hash in the midst of its making -/
def hC (s : S8) (m : Nat) : Array Value := ((s.hashTo m ++ noughts (32 - m)).map u8).toArray
theorem hashTo_len (s : S8) (k : Nat) : (s.hashTo k).length = k := by simp [S8.hashTo]
theorem hC_here (s : S8) (m : Nat) (h : m < 32) : (hC s m)[m]? = some (.int .u8 (iv8 0#8)) := by
  unfold hC
  rw [List.getElem?_toArray, List.getElem?_map, List.getElem?_append_right (by rw [hashTo_len]; omega), hashTo_len, Nat.sub_self]
  simp [noughts, show 0 < 32 - m by omega]
theorem hC_set (s : S8) (m : Nat) (h : m < 32) : (hC s m).setIfInBounds m (.int .u8 (iv8 (s.byte m))) = hC s (m + 1) := by
  unfold hC
  rw [List.setIfInBounds_toArray, List.map_append, List.set_append_right _ _ (by rw [List.length_map, hashTo_len]; omega), List.length_map, hashTo_len, Nat.sub_self]
  rw [show 32 - m = (32 - (m + 1)) + 1 by omega]
  simp [S8.hashTo, List.range_succ, noughts, List.replicate_succ]
theorem hC_end (s : S8) : hC s 32 = ((s.hashTo 32).map u8).toArray := by unfold hC; simp [noughts]
/-- SHA-256 -/
def sha (bs : List (BitVec 8)) : List (BitVec 8) := (blocks (pad bs) ((pad bs).length / 64)).hashTo 32
theorem pad_len (bs : List (BitVec 8)) : (pad bs).length = bs.length + 1 + padZ bs.length + 8 := by simp [pad, be64_len, noughts]; omega
theorem pad_mod (bs : List (BitVec 8)) : (pad bs).length % 64 = 0 := by rw [pad_len]; unfold padZ; omega
theorem zero32 : ∀ w, (zeroValue 59).run Tryd.prog w = .ok (.agg ((noughts 32).map u8).toArray) w := zero_of2 (by kernel_rfl)
theorem quiet_load_midS {P : Program} {ops : Array Oper} {C : World → Prop} {Q : Act → Prop} {a : Act} {o : Oper} {rest : List Oper} (hw : Region.wanted o (yielded ops a.tmps) = true) (ty : TypeId) (x : Operand) (ho : o.op = .load ty x) (b o' : Nat) (hx : a.eval x = .pointer (some ⟨b, o', none⟩)) (cs : List Value) (d : TypeDesc)
    (hS : ∀ w, C w → w.rangeAt b o' cs) (hu : P.underlying ty = some d) (hd : d.isRow = true) (hi : (P.info? ty).map (·.size) = some cs.length) (h : wpQuiet P ops C Q rest (a.put o.dst (.agg cs.toArray))) : wpQuiet P ops C Q (o :: rest) a :=
  BigFrame.wpQuiet_want hw fun K hK => ⟨_, fun w hw => by
    unfold Oper.quietAt execOp
    simp only [ho, hx, Instr.loadAt, Instr.sureAddr, Sem.run_bind, Sem.run_pure, Result.andThen_ok, run_loadVar_mid w b o' ty cs d (hS w hw) hu hd hi]
    exact ⟨rfl, rfl⟩, hK _ h⟩
theorem own_row {w : World} {B n c : Nat} {p : Option Addr} {bs : List (BitVec 8)} (h : Own8 w B (.slice p n c) bs) : Row8 w p bs := by
  obtain ⟨p', c', e, _, _, h⟩ := h.row
  injection e with e1 e2 e3
  subst e1
  exact h
theorem zero8lit : ∀ w, (zeroValue 87).run Tryd.prog w = .ok (.agg #[.int .u32 0, .int .u32 0, .int .u32 0, .int .u32 0, .int .u32 0, .int .u32 0, .int .u32 0, .int .u32 0]) w := zero_of2 (by kernel_rfl)

set_option maxRecDepth 100000 in
set_option maxHeartbeats 4000000 in
theorem refSum_any (p : Option Addr) (n c : Nat) (bs : List (BitVec 8)) (w : World) (hr : Row8 w p bs) (hn : bs.length = n) (hbig : n ≤ 140737488355000) :
    Calls Tryd.prog 36 #[.slice p n c] w fun e w' => e = .returned (.agg ((sha bs).map u8).toArray) ∧ Below w.heap.size w w' := by
  have HN := Lib.hid hn
  clear hn
  have hz8 := zero8lit
  have hz32 := zero32
  obtain ⟨Y, hY⟩ : ∃ Y, Y = ((noughts 32).map u8).toArray := ⟨_, rfl⟩
  rw [← hY] at hz32
  have HY := Lib.hid hY
  clear hY
  go_enter Tryd.func36, Tryd.ntmps36
  go_upto_region 2 with fail
  refine wp_abst (fun w' => Hid (Blk w' w.heap.size 59 Y) ∧ Hid (Blk w' (w.heap.size + 1) 87 s8First.cells.toArray) ∧ Below w.heap.size w w') ⟨Lib.hid ?_, Lib.hid ?_, ?_⟩ ?_
  · exact (Blk.new w _ _).alloc _
  · exact Blk.new2 w _ _ _
  · exact ((Below.refl _ _).alloc (Nat.le_refl _) _).alloc (by simp) _
  rintro w1 ⟨hy1, hv1, hbel1⟩
  have hlt1 := hv1.out.lt
  have hr1 := hr.below hbel1 (Nat.le_refl _)
  clear hz8
  go_wp2_with fail
  refine (padded_any p n c bs _ hr1 HN.out hbig).mono ?_
  rintro e w2 ⟨va, rfl, hoa, hbel2⟩
  have hy2 := Lib.hid (hy1.out.below hbel2 (by omega))
  have hv2 := Lib.hid (hv1.out.below hbel2 hlt1)
  have hbw2 := hbel1.trans (hbel2.mono hbel1.size)
  obtain ⟨all, hall⟩ : ∃ all, all = pad bs := ⟨_, rfl⟩
  have hm := pad_mod bs
  have hpl := pad_len bs
  rw [← hall] at hoa hm hpl
  obtain ⟨q, L, cap, rfl, hL, hlc, hcm, hra⟩ := own_open hoa
  rw [hL.out] at hm hpl
  have hL9 : 9 ≤ L := by omega
  have hz63 : padZ bs.length ≤ 63 := by unfold padZ; omega
  have hLb : L ≤ 140737488355328 := by have := HN.out; omega
  have HM := Lib.hid hm
  have HA := Lib.hid hall
  obtain ⟨bb, of, rfl, hbb, _⟩ := hra (fun e => by have := hL.out; rw [e] at this; simp at this; omega)
  clear hm hpl hall hy1 hv1 hbel1 hbel2 hr1
  go_wp2_with fail
  go_loopw [5] (fun i wr => ∃ k at0 : Nat, Hid (at0 = 64 * k) ∧ at0 ≤ L ∧ i = .int .i64 (at0 : Int) ∧ Hid (Blk wr (w.heap.size + 1) 87 (blocks all k).cells.toArray) ∧ Hid (Blk wr w.heap.size 59 Y) ∧ Own8 wr w1.heap.size (.slice (some ⟨bb, of, none⟩) L cap) all ∧ Below w.heap.size w wr) (fun i _ => L - (intOf i).toNat)
  case atStart => exact ⟨0, 0, Lib.hid rfl, by omega, rfl, hv2, hy2, hoa, hbw2⟩
  case round =>
    obtain ⟨k, at0, hat, hk, rfl, hv3, hy3, ho3, hb3⟩ := hrel
    clear hv2 hy2 hra hbw2 hoa
    have hr3 := own_row ho3
    have hlt3 := hv3.out.lt
    obtain ⟨T, hT⟩ : ∃ T, T = blocks all k := ⟨_, rfl⟩
    rw [← hT] at hv3
    have HT := Lib.hid hT
    clear hT
    by_cases hkL : at0 < L
    · have hlt : (at0 : Int) < (L : Int) := by omega
      have h64 : at0 + 64 ≤ L := by have := hat.out; have := HM.out; omega
      go_upto_region 6 with fail
      have s1 : IntKind.i64.wrap ((at0 : Int) + 64) = (at0 : Int) + 64 := by rw [IntKind.wrap_i64]; omega
      have s2 : (0 : Int) ≤ (at0 : Int) := by omega
      have s3 : (at0 : Int) ≤ (at0 : Int) + 64 := by omega
      have s4 : (at0 : Int) + 64 ≤ (cap : Int) := by omega
      have s5 : ¬ cap = at0 := by omega
      have s6 : at0 + 64 - at0 = 64 := by omega
      have s7 : ((at0 : Int) + 64).toNat = at0 + 64 := by omega
      have hrg : ∀ j, (wr.drewN j).rangeAt (w.heap.size + 1) 0 T.cells := fun j => hv3.out.range8
      refine quiet_tail 6 (by kernel_rfl) (by kernel_rfl) ?_
      simp only [List.take_succ_cons, List.take_zero, List.drop_succ_cons, List.drop_zero]
      refine quiet_load_midS rfl 87 (.tmp 3) rfl (w.heap.size + 1) 0 rfl T.cells _ (fun w' ⟨j, hj⟩ => by rw [hj]; exact hrg j) Tryd.underlying87 rfl (S8.infoL T) ?_
      simp only [act_put_someD, List.setIfInBounds_toArray, List.set_cons_succ, List.set_cons_zero]
      iterate 5 (go_big_quiet_step (fail))
      refine wpQuiet_nil ?_
      rintro _ ⟨nq, rfl⟩
      have hW : ∃ W, W = wr.drewN nq := ⟨_, rfl⟩
      obtain ⟨W, hW⟩ := hW
      rw [← hW]
      have hvW : Hid (Blk W (w.heap.size + 1) 87 T.cells.toArray) := Lib.hid (by rw [hW]; exact hv3.out)
      have hyW : Hid (Blk W w.heap.size 59 Y) := Lib.hid (by rw [hW]; exact hy3.out)
      have hoW : Own8 W w1.heap.size (.slice (some ⟨bb, of, none⟩) L cap) all := by rw [hW]; exact ho3.drewN nq
      have hbW : Below w.heap.size w W := by rw [hW]; exact below_drewN hb3 nq
      have hrW := (own_row hoW).drop (k := at0) (c := cap) (by rw [hL.out]; exact hlc)
      rw [if_neg s5, Option.map_some, Addr.add_lit] at hrW
      have hrT := hrW.take 64
      have hlT : ((all.drop at0).take 64).length = 64 := by rw [List.length_take, List.length_drop, hL.out]; omega
      clear hW hv3 hy3 ho3 hb3 hr3 s1 s3 s4 s6 s7 hrg hrW
      go_wp2_with fail
      refine (mix_any T (some ⟨bb, of + at0, none⟩) (cap - at0) ((all.drop at0).take 64) W hlT hrT).mono ?_
      rintro e w4 ⟨rfl, hb4⟩
      obtain ⟨M, hM⟩ : ∃ M, M = T.mix ((all.drop at0).take 64) := ⟨_, rfl⟩
      rw [← hM]
      have HM2 : Hid (blocks all (k + 1) = M) := Lib.hid (by rw [blocks, ← HT.out, ← hat.out, hM])
      clear hM
      have hltW := hvW.out.lt
      have hv4 := Lib.hid (hvW.out.below hb4 hltW)
      have hy4 := Lib.hid (hyW.out.below hb4 (by omega))
      have ho4 := hoW.below hb4 (Nat.le_refl _)
      have hbw4 := hbW.trans (hb4.mono hbW.size)
      clear hvW hyW hoW hbW hb4
      go_wp2_with (with_reducible refine wp_store_blk (o := ⟨none, _, _, _, _, _⟩) ?_ 87 (.tmp 3) (.tmp 23) ?_ (w.heap.size + 1) 87 T.cells.toArray M.cells.toArray ?_ ?_ hv4.out ?_ ?_ ?_ (w.heap.size + 1) w4 ?_ ?_ ?_
                   · rfl
                   · rfl
                   · rfl
                   · rfl
                   · exact S8.info M
                   · rfl
                   · exact S8.cells_one M
                   · exact Below.refl _ _
                   · exact Nat.le_refl _
                   intro w5 hv5 hb5 hg5 _)
      have hy5 := Lib.hid (hy4.out.below hb5 (by omega))
      have ho5 := ho4.kept hg5.out (.inr (fun e => by
        injection e with e
        have := (World.ownsRow.lt ho4 bb rfl).1
        have e2 : bb = w.heap.size + 1 := e
        omega))
      have hbw5 := hbw4.trans (hb5.mono (by omega))
      rw [← HM2.out] at hv5
      go_roundw
      case rel => exact ⟨k + 1, at0 + 64, Lib.hid (by have := hat.out; omega), h64, by go_num, hv5, hy5, ho5, hbw5⟩
      case measure => simp [intOf]; omega
    · have hkE : at0 = L := by omega
      have hlt : ¬ (at0 : Int) < (L : Int) := by omega
      have hkk : L / 64 = k := by have := hat.out; have := HM.out; omega
      have hsha : Hid (sha bs = T.hashTo 32) := Lib.hid (by unfold sha; rw [← HA.out, hL.out, hkk, HT.out])
      have hsz3 := hb3.size
      have hG : Hid (Blk (wr.alloc (.cells Y 59)) wr.heap.size 59 (hC T 0)) := Lib.hid (by rw [show hC T 0 = Y by rw [HY.out]; rfl]; exact Blk.new wr _ _)
      have hv4 := Lib.hid (hv3.out.alloc (.cells Y 59))
      have hy4 := Lib.hid (hy3.out.alloc (.cells Y 59))
      have hb4 := hb3.alloc hsz3 (.cells Y 59)
      clear hv3 hy3 ho3 hb3 hr3 hkk hkE
      obtain ⟨G, hGG⟩ : ∃ G, G = wr.heap.size := ⟨_, rfl⟩
      have HG := Lib.hid hGG
      have hGlt : w.heap.size + 1 < G := by omega
      rw [← hGG] at hG
      clear hGG
      go_wp2
      rw [← HG.out]
      go_loopw [24] (fun i wr2 => ∃ m : Nat, m ≤ 32 ∧ i = .int .i64 (m : Int) ∧ Hid (Blk wr2 G 59 (hC T m)) ∧ Hid (Blk wr2 (w.heap.size + 1) 87 T.cells.toArray) ∧ Hid (Blk wr2 w.heap.size 59 Y) ∧ Below w.heap.size w wr2) (fun i _ => 32 - (intOf i).toNat)
      case atStart => exact ⟨0, by omega, rfl, hG, hv4, hy4, hb4⟩
      case round =>
        obtain ⟨m, hm, rfl, hg5, hv5, hy5, hb5⟩ := hrel
        clear hG hv4 hy4 hb4
        by_cases hm32 : m < 32
        · have hltm : (m : Int) < 32 := by omega
          have q1 : Int.tdiv (m : Int) 4 = ((m / 4 : Nat) : Int) := by rw [Int.tdiv_eq_ediv_of_nonneg (by omega)]; omega
          have q2 : (m : Int) / 4 = ((m / 4 : Nat) : Int) := by omega
          have q3 : Int.tmod (m : Int) 4 = ((m % 4 : Nat) : Int) := by rw [Int.tmod_eq_emod_of_nonneg (by omega)]; omega
          have q4 : (m : Int) % 4 = ((m % 4 : Nat) : Int) := by omega
          obtain ⟨d, hd⟩ : ∃ d, d = m / 4 := ⟨_, rfl⟩
          obtain ⟨r, hr4⟩ : ∃ r, r = m % 4 := ⟨_, rfl⟩
          rw [← hd] at q1 q2
          rw [← hr4] at q3 q4
          have d8 : d < 8 := by omega
          have d8i : (d : Int) < 8 := by omega
          have r4 : r < 4 := by omega
          have e1 : (0 : Int) ≤ 24 - 8 * (r : Int) := by omega
          have e2 : IntKind.i64.wrap (8 * (r : Int)) = 8 * (r : Int) := by rw [IntKind.wrap_i64]; omega
          have e3 : IntKind.i64.wrap (24 - 8 * (r : Int)) = 24 - 8 * (r : Int) := by rw [IntKind.wrap_i64]; omega
          have cA : wr.cell? ⟨w.heap.size + 1, d, none⟩ = some (.int .u32 (iv32 (atS T d))) := by rw [hv5.out.cell]; exact cells_here T d d8
          have cB : wr.cell? ⟨G, m, none⟩ = some (.int .u8 (iv8 0#8)) := by rw [hg5.out.cell]; exact hC_here T m hm32
          have fz := hg5.out.frozen m
          have m0 : (0 : Int) ≤ (m : Int) := by omega
          have hsh : IntKind.u8.wrap (iv32 (atS T d) / 2 ^ (24 - 8 * r)) = iv8 (T.byte m) := by rw [shrp32, cut32_8, hd, hr4]; rfl
          clear hd hr4
          go_wp2
          clear cA cB fz hsh q1 q2 q3 q4 e1 e2 e3
          go_roundw
          case rel =>
            refine ⟨m + 1, by omega, by go_num, Lib.hid ?_, Lib.hid ?_, Lib.hid ?_, ?_⟩
            · rw [← hC_set T m hm32]; exact hg5.out.set m _
            · exact hv5.out.far (by show w.heap.size + 1 ≠ G; omega) _
            · exact hy5.out.far (by show w.heap.size ≠ G; omega) _
            · exact hb5.setCell (by show w.heap.size ≤ G; omega) _
          case measure => simp [intOf]; omega
        · have hm' : m = 32 := by omega
          subst hm'
          have hge : ¬ ((32 : Nat) : Int) < 32 := by omega
          obtain ⟨X, hX⟩ : ∃ X, X = sha bs := ⟨_, rfl⟩
          have hxl : X.length = 32 := by rw [hX, hsha.out, hashTo_len]
          rw [hC_end, ← hsha.out, ← hX] at hg5
          have HX := Lib.hid hX
          have HXL := Lib.hid hxl
          clear hX hxl
          have hrg : wr.rangeAt G 0 (X.map Go.Proofs.YtikjhnbehihbjaaDoor.u8) := hg5.out.range8
          have hYs : Hid (Y.size = 32) := Lib.hid (by rw [HY.out]; rfl)
          go_wp2_with (first
            | (with_reducible refine wpList_load_mid (op := ⟨some 40, _, _, _, _, _⟩) ?_ 59 (.tmp 6) ?_ G 0 ?_ (X.map Go.Proofs.YtikjhnbehihbjaaDoor.u8) _ hrg Tryd.underlying59 ?_ ?_ ?_
               · rfl
               · rfl
               · rfl
               · rfl
               · rw [List.length_map, HXL.out]; kernel_rfl)
            | (with_reducible refine wp_store_blk (o := ⟨none, _, _, _, _, _⟩) ?_ 59 (.tmp 2) (.tmp 40) ?_ w.heap.size 59 Y (X.map Go.Proofs.YtikjhnbehihbjaaDoor.u8).toArray ?_ ?_ hy5.out ?_ ?_ ?_ w.heap.size w hb5 ?_ ?_
               · rfl
               · rfl
               · rfl
               · rfl
               · rw [List.size_toArray, List.length_map, HXL.out]; kernel_rfl
               · exact hYs.out.trans (by rw [List.size_toArray, List.length_map, HXL.out])
               · rw [List.all_toArray]; simp [Value.oneCell']
               · exact Nat.le_refl _
               intro w7 hz7 hbel7 _ _))
          refine bodyPost_ret (results_cell1 rfl _ _ _ w.heap.size _ (X.map Go.Proofs.YtikjhnbehihbjaaDoor.u8) _ rfl hz7.out Tryd.underlying59 rfl (by rw [List.length_map, HXL.out]; kernel_rfl)) rfl ?_
          refine ⟨?_, hbel7⟩
          rw [HX.out]
end Go.Proofs.YtikjhnbehihbjaaDoor
