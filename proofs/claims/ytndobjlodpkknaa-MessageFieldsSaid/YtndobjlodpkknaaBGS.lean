/- The size of a hash's cells. · SHA-256: plain; the small functions of both sides: the walks. · SHA-256: the rounds' words; rotations of the program: the walks. · sporranref01.spread: the 64 words of a block: the walk. · sporranref01.mix: the eight words behind a block: the walk. · sporranref01.padded: the walk. · sporranref01.Sum: the walk. · sporranref01.Double: the walk. · SHA-256, plain: the program's ways to write the round. · (*state).block: the walk: it is S8.mix upon the eight words of a hasher. · sha.Hasher: what it holds, plain; sha.New: the walk. · (*sha.Hasher).Write: the walk: it ta -/
import Derived.Deep.DeepCutAuto
import Derived.Deep.CutBlock
import Derived.Deep.MidRow
import Derived.Laws.Tables
import Derived.RegionTactic
import Derived.Test.YtndobjlodpkknaaBGB
import Derived.Test.YtndobjlodpkknaaBGA
namespace Go.Proofs.Ytndobjlodpkknaa
open Go Go.RowKit
theorem hCells_info {l : List (BitVec 8)} (h : l.length = 32) : (Try.prog.info? 29).map (·.size) = some (hCells l).length := by rw [hCells, List.length_map, h]; kernel_rfl
theorem hCells_info' {l : List (BitVec 8)} (h : l.length = 32) : (Try.prog.info? 29).map (·.size) = some (hCells l).toArray.size := by rw [List.size_toArray]; exact hCells_info h
end Go.Proofs.Ytndobjlodpkknaa
namespace Go.Proofs.Ytndobjlodpkknaa
open Go.RowKit
def rr (x : BitVec 32) (n : Nat) : BitVec 32 := x.rotateRight n
end Go.Proofs.Ytndobjlodpkknaa
namespace Go.Proofs.Ytndobjlodpkknaa
open Go.RowKit
def kWords : List (BitVec 32) := [1116352408#32, 1899447441#32, 3049323471#32, 3921009573#32, 961987163#32, 1508970993#32, 2453635748#32, 2870763221#32, 3624381080#32, 310598401#32, 607225278#32, 1426881987#32, 1925078388#32, 2162078206#32, 2614888103#32, 3248222580#32, 3835390401#32, 4022224774#32, 264347078#32, 604807628#32, 770255983#32, 1249150122#32, 1555081692#32, 1996064986#32, 2554220882#32, 2821834349#32, 2952996808#32, 3210313671#32, 3336571891#32, 3584528711#32, 113926993#32, 338241895#32, 666307205#32, 773529912#32, 1294757372#32, 1396182291#32, 1695183700#32, 1986661051#32, 2177026350#32, 2456956037#32, 2730485921#32, 2820302411#32, 3259730800#32, 3345764771#32, 3516065817#32, 3600352804#32, 4094571909#32, 275423344#32, 430227734#32, 506948616#32, 659060556#32, 883997877#32, 958139571#32, 1322822218#32, 1537002063#32, 1747873779#32, 1955562222#32, 2024104815#32, 2227730452#32, 2361852424#32, 2428436474#32, 2756734187#32, 3204031479#32, 3329325298#32]
def kW (i : Nat) : BitVec 32 := kWords[i]?.getD 0#32
end Go.Proofs.Ytndobjlodpkknaa
namespace Go.Proofs.Ytndobjlodpkknaa
open Go.RowKit
def sm0 (x : BitVec 32) : BitVec 32 := (rr x 7 ^^^ rr x 18) ^^^ (x >>> 3)
def sm1 (x : BitVec 32) : BitVec 32 := (rr x 17 ^^^ rr x 19) ^^^ (x >>> 10)
def beTo (bs : List (BitVec 8)) (at0 : Nat) : Nat → BitVec 32
  | 0 => 0#32
  | k + 1 => beTo bs at0 k * 256#32 + (bs[at0 + k]?.getD 0#8).setWidth 32
def atW (l : List (BitVec 32)) (i : Nat) : BitVec 32 := l[i]?.getD 0#32
def nextW (l : List (BitVec 32)) (i : Nat) : BitVec 32 := atW l (i - 16) + sm0 (atW l (i - 15)) + atW l (i - 7) + sm1 (atW l (i - 2))
def wl (bs : List (BitVec 8)) : Nat → List (BitVec 32)
  | 0 => []
  | i + 1 => wl bs i ++ [if i < 16 then beTo bs (4 * i) 4 else nextW (wl bs i) i]
end Go.Proofs.Ytndobjlodpkknaa
namespace Go.Proofs.Ytndobjlodpkknaa
open Go.RowKit
structure S8 where
  a : BitVec 32
  b : BitVec 32
  c : BitVec 32
  d : BitVec 32
  e : BitVec 32
  f : BitVec 32
  g : BitVec 32
  h : BitVec 32
def S8.list (s : S8) : List (BitVec 32) := [s.a, s.b, s.c, s.d, s.e, s.f, s.g, s.h]
def S8.cells (s : S8) : List Value := s.list.map u32
def bg0 (a : BitVec 32) : BitVec 32 := (rr a 2 ^^^ rr a 13) ^^^ rr a 22
def bg1 (e : BitVec 32) : BitVec 32 := (rr e 6 ^^^ rr e 11) ^^^ rr e 25
def chP (e f g : BitVec 32) : BitVec 32 := (e &&& f) ^^^ (~~~e &&& g)
def mjP (a b c : BitVec 32) : BitVec 32 := ((a &&& b) ^^^ (a &&& c)) ^^^ (b &&& c)
def S8.t1 (s : S8) (k : Nat) (x : BitVec 32) : BitVec 32 := s.h + bg1 s.e + chP s.e s.f s.g + kW k + x
def S8.t2 (s : S8) : BitVec 32 := bg0 s.a + mjP s.a s.b s.c
def S8.round (s : S8) (k : Nat) (x : BitVec 32) : S8 := ⟨s.t1 k x + s.t2, s.a, s.b, s.c, s.d + s.t1 k x, s.e, s.f, s.g⟩
def S8.rounds (s : S8) (ws : List (BitVec 32)) : Nat → S8
  | 0 => s
  | k + 1 => (s.rounds ws k).round k (atW ws k)
def atS (s : S8) (i : Nat) : BitVec 32 := atW s.list i
theorem S8.cells_len (s : S8) : s.cells.length = 8 := rfl
theorem S8.cells_one (s : S8) : s.cells.toArray.all (·.oneCell') = true := by
  rw [List.all_toArray, S8.cells]; simp [Value.oneCell']
def SBw (w2 w' : World) : Prop := Below w2.heap.size w2 w'
theorem SBw.drew {w2 w' : World} (h : SBw w2 w') : SBw w2 w'.drew := Below.drew h
theorem SBw.drewN {w2 w' : World} (h : SBw w2 w') (k : Nat) : SBw w2 (w'.drewN k) := below_drewN h k
theorem SBw.refl (w2 : World) : SBw w2 w2 := Below.refl _ _
def S8.add (s t : S8) : S8 := ⟨s.a + t.a, s.b + t.b, s.c + t.c, s.d + t.d, s.e + t.e, s.f + t.f, s.g + t.g, s.h + t.h⟩
def S8.mix (s : S8) (bs : List (BitVec 8)) : S8 := (s.rounds (wl bs 64) 64).add s
end Go.Proofs.Ytndobjlodpkknaa
namespace Go.Proofs.Ytndobjlodpkknaa
open Go.RowKit
def noughts (n : Nat) : List (BitVec 8) := List.replicate n 0#8
end Go.Proofs.Ytndobjlodpkknaa
namespace Go.Proofs.Ytndobjlodpkknaa
open Go.RowKit
def s8First : S8 := ⟨1779033703#32, 3144134277#32, 1013904242#32, 2773480762#32, 1359893119#32, 2600822924#32, 528734635#32, 1541459225#32⟩
def blocks (all : List (BitVec 8)) : Nat → S8
  | 0 => s8First
  | k + 1 => (blocks all k).mix ((all.drop (64 * k)).take 64)
def S8.byte (s : S8) (i : Nat) : BitVec 8 := (atS s (i / 4) >>> (24 - 8 * (i % 4))).setWidth 8
def S8.hashTo (s : S8) (k : Nat) : List (BitVec 8) := (List.range k).map s.byte
def hC (s : S8) (m : Nat) : Array Value := ((s.hashTo m ++ noughts (32 - m)).map u8).toArray
end Go.Proofs.Ytndobjlodpkknaa
namespace Go.Proofs.Ytndobjlodpkknaa
open Go.RowKit
theorem S8.add_comm (s v : S8) : s.add v = v.add s := by
  unfold S8.add
  simp only [BitVec.add_comm]
end Go.Proofs.Ytndobjlodpkknaa
namespace Go.Proofs.Ytndobjlodpkknaa
open Go.RowKit
section
variable (all x part : List (BitVec 8)) (hp : part.length = 64) (ht : part.take (all.length % 64) = all.drop (64 * (all.length / 64)))
include hp in
include ht
include hp in
end
theorem Blk.rangeAt {w : World} {g : Nat} {t : TypeId} {cs : Array Value} (h : Blk w g t cs) (o : Nat) (xs : List Value) (hx : ∀ j v, xs[j]? = some v → cs[o + j]? = some v) : w.rangeAt g o xs := fun j v hj => by
  rw [h.cell]; exact hx j v hj
end Go.Proofs.Ytndobjlodpkknaa
namespace Go.Proofs.Ytndobjlodpkknaa
open Go.RowKit
theorem of_fn32 {α : Type} (p : List α) (n : Nat) (h : p.length = n) : ∃ x : Fin n → α, p = List.ofFn x := by
  subst h
  exact ⟨fun i => p[i], List.ofFn_getElem.symm⟩
def hLits (l : List (BitVec 8)) : List Lit := l.map fun x => .int .u8 (iv8 x)
theorem mapM_someH {α β : Type} {f : α → Option β} (g : α → β) : ∀ (l : List α), (∀ i ∈ l, f i = some (g i)) → l.mapM f = some (l.map g)
  | [], _ => rfl
  | i :: l, h => by
    rw [List.mapM_cons, h i (by simp), mapM_someH g l (fun j hj => h j (by simp [hj]))]
    rfl
theorem litsH_u8 (d : Nat) (x : BitVec 8) : Try.prog.keyLits (d + 1) 5 [u8 x] = some [.int .u8 (iv8 x)] := by
  unfold Program.keyLits
  rw [Try.underlying5]
  simp only [wf8 x, and_self, if_true]
theorem cellsOfHash : Try.prog.cellsOf 29 = 32 := by kernel_rfl
theorem cellsOfByte : Try.prog.cellsOf 5 = 1 := by kernel_rfl
theorem hLits_of (d : Nat) (p : List (BitVec 8)) (hp : p.length = 32) : Try.prog.keyLits (d + 2) 29 (hCells p) = some (hLits p) := by
  unfold Program.keyLits hCells
  rw [Try.underlying29]
  simp only [cellsOfHash, cellsOfByte, List.length_map, hp, if_true]
  rw [mapM_someH (fun i => [Lit.int .u8 (iv8 (p[i]?.getD 0#8))]) (List.range 32) (fun i hi => by
    have hi' : i < 32 := List.mem_range.1 hi
    have hx : p[i]? = some (p[i]'(by omega)) := List.getElem?_eq_getElem (by omega)
    have e : ((p.map u8).drop (i * 1)).take 1 = [u8 (p[i]'(by omega))] := by
      rw [Nat.mul_one, List.drop_eq_getElem_cons (by simp; omega)]
      simp
    rw [e, litsH_u8, hx]
    rfl)]
  unfold hLits
  obtain ⟨x, rfl⟩ := of_fn32 p 32 hp
  kernel_rfl
theorem hash_formed (p : List (BitVec 8)) (hp : p.length = 32) : (Value.agg (hCells p).toArray).formed Try.prog 29 = true := by
  obtain ⟨x, rfl⟩ := of_fn32 p 32 hp
  kernel_rfl
theorem hLits_inj {p q : List (BitVec 8)} : hLits p = hLits q ↔ p = q := by
  constructor
  · intro h
    refine List.map_inj_right (f := fun x => Lit.int .u8 (iv8 x)) (fun x y hxy => ?_) |>.1 h
    injection hxy with _ h2
    exact iv8_inj.1 h2
  · rintro rfl; rfl
set_option maxRecDepth 100000 in
theorem hash_eq (p q : List (BitVec 8)) (hp : p.length = 32) (hq : q.length = 32) (w : World) :
    (Op.equalIn 10000 29 (.agg (hCells p).toArray) (.agg (hCells q).toArray)).run Try.prog w = .ok (decide (p = q)) w := by
  obtain ⟨r, hr, hiff⟩ := run_equalIn_deep (10000 - 3) 3 29 (by kernel_rfl) w 3 3 _ _ (hLits p) (hLits q) (hash_formed p hp) (hash_formed q hq) (hLits_of 1 p hp) (hLits_of 1 q hq)
  rw [show 10000 - 3 + 3 = 10000 by omega] at hr
  rw [hr]
  congr 1
  rw [Bool.eq_iff_iff, hiff, hLits_inj, decide_eq_true_iff]
theorem hash_same (p : List (BitVec 8)) (hp : p.length = 32) (w : World) :
    (Op.equalIn 10000 29 (.agg (hCells p).toArray) (.agg (hCells p).toArray)).run Try.prog w = .ok true w := by
  rw [hash_eq p p hp hp, decide_eq_true rfl]
end Go.Proofs.Ytndobjlodpkknaa
