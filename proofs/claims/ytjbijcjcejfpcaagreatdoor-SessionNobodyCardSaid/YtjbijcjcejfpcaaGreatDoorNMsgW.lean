/- message.writer: num, list: the walks.  -/
import Derived.Test.YtjbijcjcejfpcaaGreatDoorNMsgK
import Derived.Test.YtjbijcjcejfpcaaGreatDoorNAppZ
import Derived.Test.YtjbijcjcejfpcaaGreatDoorNGB
import Derived.Test.YtjbijcjcejfpcaaGreatDoorNGA
import Derived.Test.YtjbijcjcejfpcaaGreatDoorNGD
import Derived.Test.YtjbijcjcejfpcaaGreatDoorNGZ
import Derived.Test.YtjbijcjcejfpcaaGreatDoorNMsgP
import Derived.Test.YtjbijcjcejfpcaaGreatDoorNGS
namespace Go.Proofs.YtjbijcjcejfpcaaGreatDoor
open Go Go.RowKit
set_option linter.unusedVariables false
structure WrM (g : Nat) (w : World) (v : Value) (ys : List (BitVec 8)) : Prop where
  blk : Blk w g 138 #[v]
  own : Own8 w (g + 1) v ys
theorem WrM.lt {g : Nat} {w : World} {v : Value} {ys : List (BitVec 8)} (h : WrM g w v ys) : g + 1 ≤ w.heap.size := h.blk.lt
theorem WrM.fut {g : Nat} {w w' : World} {v : Value} {ys : List (BitVec 8)} (h : WrM g w v ys) (hb : Below w.heap.size w w') : WrM g w' v ys := ⟨h.blk.fut hb, h.own.fut hb⟩
theorem WrM.put {g : Nat} {w : World} {v v' : Value} {zs : List (BitVec 8)} (hb : Blk w g 138 #[v]) (ho : Own8 w (g + 1) v' zs) : WrM g (w.setCell ⟨g, 0, none⟩ v') v' zs := by
  refine ⟨?_, ho.setFar (fun e => by have := (World.ownsRow.lt ho _ e).1; simp only at this; omega) v'⟩
  have := hb.set 0 v'
  simpa using this
def WrPost (g : Nat) (w : World) (zs : List (BitVec 8)) (e : Ending) (w' : World) : Prop := e = .returned (.tuple #[]) ∧ ∃ v, WrM g w' v zs ∧ Below g w w'
theorem below_grown {g : Nat} {w w' : World} {v : Value} {ys : List (BitVec 8)} (ho : Own8 w (g + 1) v ys) (hl : g ≤ w.heap.size) (hg : w.grownBy w' v.ownBlock) : Below g w w' :=
  (Below.refl g w).grown hg hl fun k hk => by have := (World.ownsRow.lt ho k hk).1; omega
theorem below_poke (g : Nat) (w : World) (v : Value) : Below g w (w.setCell ⟨g, 0, none⟩ v) := (Below.refl g w).setCell (Nat.le_refl _) _
structure WF (g : Nat) (w1 : World) (v0 : Value) (W : World) : Prop where
  blk : Blk W g 138 #[v0]
  bel : Below g w1 W
theorem WF.fut {g : Nat} {w1 W W' : World} {v0 : Value} (h : WF g w1 v0 W) (hb : Below W.heap.size W W') : WF g w1 v0 W' := ⟨h.blk.fut hb, h.bel.trans (hb.mono (Nat.le_of_lt h.blk.lt))⟩
theorem WF.size {g : Nat} {w1 W : World} {v0 : Value} (h : WF g w1 v0 W) : g + 1 ≤ W.heap.size := h.blk.lt
theorem WF.app {g : Nat} {w1 W W' : World} {v0 v : Value} {ys : List (BitVec 8)} (h : WF g w1 v0 W) (ho : Own8 W (g + 1) v ys) (hg : W.grownBy W' v.ownBlock) : WF g w1 v0 W' := by
  refine ⟨h.blk.stays (Stays.of_grown (S := fun k => v.ownBlock = some k) hg fun k h => h) (fun e => by have := (World.ownsRow.lt ho _ e).1; omega), h.bel.trans (below_grown ho (Nat.le_of_lt h.blk.lt) hg)⟩
set_option maxRecDepth 100000 in
set_option maxHeartbeats 4000000 in
theorem wNum_any (n : BitVec 64) (m : Nat) (hm : m ≤ 8) (g : Nat) (w : World) (v : Value) (ys : List (BitVec 8)) (hw : WrM g w v ys) (hl : ys.length ≤ 100000000000000) :
    Calls Tryz.prog 58 #[.pointer (some ⟨g, 0, none⟩), .int .u64 (iv64 n), .int .i64 (m : Int)] w (WrPost g w (ys ++ low n m)) := by
  have HL := Lib.hid hl
  have HW0 : Hid (∃ v, WrM g w v (ys ++ low n 0)) := Lib.hid ⟨v, by rw [show low n 0 = [] from rfl, List.append_nil]; exact hw⟩
  clear hl hw
  go_enter Tryz.func58, Tryz.ntmps58
  go_upto_region 1 with fail
  obtain ⟨w1, hw1⟩ : ∃ w1, w1 = w := ⟨_, rfl⟩
  rw [← hw1] at HW0 ⊢
  clear hw1
  go_loopw [8] (fun i wr => ∃ k : Nat, k ≤ m ∧ i = .int .i64 k ∧ Hid (∃ v, WrM g wr v (ys ++ low n k)) ∧ Hid (Below g w1 wr)) (fun i _ => m - (intOf i).toNat)
  case atStart => exact ⟨0, by omega, rfl, HW0, Lib.hid (Below.refl _ _)⟩
  case round =>
    obtain ⟨k, hk, rfl, HWk, HBk⟩ := hrel
    clear HW0
    by_cases hkm : k < m
    · have hlt : (k : Int) < (m : Int) := by omega
      obtain ⟨v0, hwk⟩ := HWk.out
      obtain ⟨q, n1, c1, rfl, _⟩ := hwk.own.open
      have HF0 : Hid (WF g w1 (.slice q n1 c1) wr) := Lib.hid ⟨hwk.blk, HBk.out⟩
      have HO0 : Hid (Own8 wr (g + 1) (.slice q n1 c1) (ys ++ low n k)) := Lib.hid hwk.own
      have hb1 : (0 : Int) ≤ 8 * (k : Int) := by omega
      have hb2 : 8 * (k : Int) ≤ 56 := by omega
      have hsh := shrB n k
      clear hwk HWk HBk
      go_upto_region 3 with fail
      refine region_plan_tail [qq 0, qq 1, qq 2, qq 3, qq 4, qq 5, qq 6, qq 7, qq 8, qq 9, oo 10, oo 11, qq 12, qq 13] 14 (fun W => WF g w1 (Value.slice q n1 c1) W) (by kernel_rfl) (by kernel_rfl) (HF0.out.fut (below_draws wr 1)) ?_
      refine' plan_quiet (s := 26) (A1 := _) [0, 1, 2, 3, 4, 5, 6, 7, 8, 9] [_, _, _, _, _, _, _, _, _, _] _ rfl rfl rfl (fun W hW => ?hqa) _ (HF0.out.fut (below_draws wr 1)) (fun _ => ?hra)
      case hqa =>
        simp only [List.getElem_toArray, List.getElem_cons_zero, List.getElem_cons_succ]
        have c0 : ∀ k, (W.drewN k).cell? ⟨g, 0, none⟩ = some (.slice q n1 c1) := fun k => by have := hW.blk.cell 0; simpa using this
        iterate 10 (go_big_quiet_step (fail))
        refine wpQuiet_nil ?_
        rfl
      case hra =>
      refine plan_one rfl fun k1 => ?_
      have hdr : Below wr.heap.size wr (wr.drew.drewN k1) := below_drewN (Below.refl _ _).drew k1
      have HFd1 := Lib.hid (HF0.out.fut hdr)
      have HOd1 := Lib.hid (HO0.out.fut hdr)
      clear HF0 HO0 hdr
      generalize wr.drew.drewN k1 = Wd1 at *
      have hb2 := below_new Wd1 (.cells #[.int .u8 (iv8 (byteN n k))] 5)
      have HB2 : Hid (Blk (Wd1.alloc (.cells #[.int .u8 (iv8 (byteN n k))] 5)) Wd1.heap.size 5 (hCells ([byteN n k])).toArray) := Lib.hid (Blk.new Wd1 5 #[.int .u8 (iv8 (byteN n k))])
      have HR2 := Lib.hid (hCells_row HB2.out)
      have HF2 := Lib.hid (HFd1.out.fut hb2)
      have HO2 := Lib.hid (HOd1.out.fut hb2)
      clear HB2 HFd1 HOd1
      go_wp2_with fail
      refine planQ_normal (And.intro HF2.out ?_)
      refine plan_one rfl fun k3 => ?_
      have hdr : Below (Wd1.alloc (.cells #[.int .u8 (iv8 (byteN n k))] 5)).heap.size (Wd1.alloc (.cells #[.int .u8 (iv8 (byteN n k))] 5)) ((Wd1.alloc (.cells #[.int .u8 (iv8 (byteN n k))] 5)).drewN k3) := below_draws (Wd1.alloc (.cells #[.int .u8 (iv8 (byteN n k))] 5)) k3
      have HFd3 := Lib.hid (HF2.out.fut hdr)
      have HOd3 := Lib.hid (HO2.out.fut hdr)
      have HR2_3 := Lib.hid ((HR2.out).fut hdr)
      clear HR2
      clear HF2 HO2 hdr
      generalize (Wd1.alloc (.cells #[.int .u8 (iv8 (byteN n k))] 5)).drewN k3 = Wd3 at *
      refine wp_append8 (o := ⟨some 22, _, _, _, _, _⟩) rfl (.tmp 15) (.tmp 21) rfl (g + 1) _ _ rfl HOd3.out (some ⟨Wd1.heap.size, 0, none⟩) 1 1 ([byteN n k]) rfl rfl (HR2_3.out) (by rw [List.length_append, low_len]; simp only [List.length_cons, List.length_nil]; have := HL.out; omega) HFd3.out.size (g + 1) Wd3 (Below.refl _ _) (Nat.le_refl _) ?_
      intro vz4 W4 ho _ hg hk
      have HF4 := Lib.hid (HFd3.out.app HOd3.out hg)
      obtain ⟨qz4, mz4, dz4, rfl, _⟩ := ho.open
      have HO4 := Lib.hid ho
      clear HFd3 HOd3 ho hg hk
      go_wp2_with fail
      refine planQ_normal (And.intro HF4.out ?_)
      refine' plan_quiet (s := 26) (A1 := _) (r := []) [12, 13] [_, _] _ rfl rfl rfl (fun W hW => ?hqb) _ HF4.out (fun _ => ?hrb)
      case hqb =>
        simp only [List.getElem_toArray, List.getElem_cons_zero, List.getElem_cons_succ]
        iterate 2 (go_big_quiet_step (fail))
        refine wpQuiet_nil ?_
        rfl
      case hrb =>
      refine plan_end fun k5 => HeadQ.normal ?_
      have hdr := below_draws W4 k5
      have HFz5 := Lib.hid (HF4.out.fut hdr)
      have HOz5 := Lib.hid (HO4.out.fut hdr)
      clear HF4 HO4 hdr
      generalize W4.drewN k5 = Wz5 at *
      have fz5 := HFz5.out.blk.frozen 0
      have ez5 := HFz5.out.blk.cell 0
      simp only [List.getElem?_toArray, List.getElem?_cons_zero] at ez5
      have HWS := Lib.hid (WrM.put HFz5.out.blk HOz5.out)
      have HBS := Lib.hid (HFz5.out.bel.trans (below_poke g Wz5 (Value.slice qz4 mz4 dz4)))
      rw [List.append_assoc, ← low_succ] at HWS
      go_wp2_with fail
      go_roundw
      case rel => exact ⟨k + 1, by omega, by go_num, Lib.hid ⟨_, HWS.out⟩, HBS⟩
      case measure => simp [intOf]; omega
    · obtain rfl : k = m := by omega
      have hge : ¬ (k : Int) < (k : Int) := by omega
      go_wp2_with fail
      first | go_end0 | refine bodyPost_ret (results_none rfl _ _ _) rfl ?_
      obtain ⟨v1, hw1⟩ := HWk.out
      exact ⟨rfl, _, hw1, HBk.out⟩
def Ahead (g : Nat) (w : World) (pa : Option Addr) (a : Bs) (v : Value) : Prop := Row8 w pa a ∧ (a ≠ [] → ∀ x, pa = some x → v.ownBlock ≠ some x.block ∧ x.block < w.heap.size ∧ x.block ≠ g)
theorem Ahead.fut {g : Nat} {w w' : World} {pa : Option Addr} {a : Bs} {v : Value} (h : Ahead g w pa a v) (hb : Below w.heap.size w w') : Ahead g w' pa a v :=
  ⟨h.1.below hb (Nat.le_refl _), fun h0 x hx => by obtain ⟨h1, h2, h3⟩ := h.2 h0 x hx; exact ⟨h1, Nat.lt_of_lt_of_le h2 hb.size, h3⟩⟩
theorem Ahead.stays {g : Nat} {w w' : World} {S : Nat → Prop} {pa : Option Addr} {a : Bs} {v v' : Value} (h : Ahead g w pa a v) (hs : Stays S w w') (hS : ∀ x, pa = some x → a ≠ [] → ¬ S x.block) (hv : ∀ x, pa = some x → a ≠ [] → v'.ownBlock ≠ some x.block) : Ahead g w' pa a v' :=
  ⟨h.1.stays hs (fun h0 x hx => hS x hx h0), fun h0 x hx => by obtain ⟨h1, h2, h3⟩ := h.2 h0 x hx; exact ⟨hv x hx h0, Nat.lt_of_lt_of_le h2 hs.size, h3⟩⟩
theorem Ahead.app {g : Nat} {w w' : World} {pa : Option Addr} {a : Bs} {v v' : Value} (h : Ahead g w pa a v) (hg : w.grownBy w' v.ownBlock) (hk : v'.ownBlock = v.ownBlock ∨ v'.ownBlock = some w.heap.size) : Ahead g w' pa a v' :=
  h.stays (Stays.of_grown (S := fun k => v.ownBlock = some k) hg fun k h => h) (fun x hx h0 => (h.2 h0 x hx).1) (fun x hx h0 e => by
    obtain ⟨h1, h2, _⟩ := h.2 h0 x hx
    rcases hk with hk | hk
    · exact h1 (hk ▸ e)
    · rw [hk] at e; injection e with e; omega)
end Go.Proofs.YtjbijcjcejfpcaaGreatDoor
