/- Words for memory that the walks of chapter 11 share: a block whose cells are known, and what keeps it. No conditions; no function of the program in sight. -/
import Derived.Test.YtmaoaljohjkjeaaRows
import Derived.WalkKit
import Derived.ProofKit
import Derived.OpenShut
import Derived.WalkSpells
import Derived.WalkLawsBesides
import Derived.Lib.Hide
import Derived.Laws.Rows
import Derived.Deep.Draws
import Derived.Outline
namespace Go.Proofs.Ytmaoaljohjkjeaa
open Go.ChangeShapes Go.WideShapes Go.ChangeAt Go.RowKit

/-- block g is just the cells cs, of element type t, none of them frozen -/
def Holds (w : World) (g : Nat) (t : TypeId) (cs : List Value) : Prop := w.heap[g]? = some (.cells cs.toArray t (0, 0))

theorem Holds.size_lt {w : World} {g : Nat} {t : TypeId} {cs : List Value} (h : Holds w g t cs) : g < w.heap.size := (Array.getElem?_eq_some_iff.1 h).1
theorem Holds.cell {w : World} {g : Nat} {t : TypeId} {cs : List Value} (h : Holds w g t cs) (i : Nat) : w.cell? ⟨g, i, none⟩ = cs[i]? := by
  rw [cell_of_row w g i cs.toArray t (0, 0) h]; simp
theorem Holds.free {w : World} {g : Nat} {t : TypeId} {cs : List Value} (h : Holds w g t cs) (i : Nat) : w.frozen? ⟨g, i, none⟩ = false := frozen_of_row w g i cs.toArray t h
theorem Holds.made (w : World) (t : TypeId) (cs : List Value) : Holds (w.alloc (.cells cs.toArray t)) w.heap.size t cs := heap_alloc_new w _
theorem Holds.drawn {w : World} {g : Nat} {t : TypeId} {cs : List Value} (h : Holds w g t cs) : Holds w.drew g t cs := h
theorem Holds.below {w w' : World} {g : Nat} {t : TypeId} {cs : List Value} (h : Holds w g t cs) (hb : Below w.heap.size w w') : Holds w' g t cs := (hb.block g h.size_lt).trans h
theorem Holds.under {w w' : World} {B g : Nat} {t : TypeId} {cs : List Value} (h : Holds w g t cs) (hb : Below B w w') (hg : g < B) : Holds w' g t cs := (hb.block g hg).trans h
theorem Holds.alloc {w : World} {g : Nat} {t : TypeId} {cs : List Value} (h : Holds w g t cs) (o : Obj) : Holds (w.alloc o) g t cs := (Below.heap_alloc w o g h.size_lt).trans h
theorem Holds.store {w : World} {g : Nat} {t : TypeId} {cs : List Value} (h : Holds w g t cs) (i : Nat) (u : Value) : Holds (w.setCell ⟨g, i, none⟩ u) g t (cs.set i u) := by
  unfold Holds at h ⊢
  rw [heap_setCell_same w g i cs.toArray t u h]; simp
theorem Holds.apart {w : World} {g : Nat} {t : TypeId} {cs : List Value} (h : Holds w g t cs) {p : Addr} (hp : g ≠ p.block) (u : Value) : Holds (w.setCell p u) g t cs := (Below.heap_setCell w p u g hp).trans h

/-- one call behind another -/
theorem bthen {a b c : World} (h : Below a.heap.size a b) (k : Below b.heap.size b c) : Below a.heap.size a c := h.trans (k.mono h.size)
/-- one new block -/
theorem balloc (w : World) (o : Obj) : Below w.heap.size w (w.alloc o) := (Below.refl _ _).alloc (Nat.le_refl _) _

theorem take_succ_getD (zs : List Int) (k : Nat) (h : k < zs.length) : zs.take (k + 1) = zs.take k ++ [zs.getD k 0] := by
  rw [List.take_succ_eq_append_getElem h]; simp [h]
end Go.Proofs.Ytmaoaljohjkjeaa
