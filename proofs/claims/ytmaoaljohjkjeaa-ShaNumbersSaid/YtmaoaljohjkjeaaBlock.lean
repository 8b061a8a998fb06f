/- The contract of sha.block: the state behind a block, as a function of the numbers that the function value tells. Conditions: the table K has 64 numbers; the function value answers for every place below 16. -/
import Derived.Test.YtmaoaljohjkjeaaTables
import Derived.RegionTactic
import Derived.BigRegion
import Derived.BigQuiet
import Derived.Deep.QuietTactic
import Derived.Deep.RegionHeld3
import Derived.Deep.RegionLaw
import Derived.Deep.DeepCutAuto
import Derived.Laws.CopyOwn
namespace Go.Proofs.Ytmaoaljohjkjeaa
open Go.ChangeShapes Go.WideShapes Go.ChangeAt Go.RowKit

theorem turned2 (x a b : Int) (ha : 1 ≤ a ∧ a ≤ 31) (hb : 1 ≤ b ∧ b ≤ 31) (B : Nat) (w : World) (hB : Holds w B 3 [.int .i64 a, .int .i64 b]) :
    Calls Try.prog 39 #[.int .u32 x, .slice (some ⟨B, 0, none⟩) 2 2] w fun e w' => e = .returned (.int .u32 ([a, b].foldl (turnZ x) 0)) ∧ w = w' := by
  refine turned_any x [a, b] B 0 2 _ (by simp) ?_ ?_
  · intro i hi
    match i, hi with
    | 0, _ => exact ha
    | 1, _ => exact hb
  · intro i hi
    rw [hB.cell]
    match i, hi with
    | 0, _ => rfl
    | 1, _ => rfl
theorem turned3 (x a b c : Int) (ha : 1 ≤ a ∧ a ≤ 31) (hb : 1 ≤ b ∧ b ≤ 31) (hc : 1 ≤ c ∧ c ≤ 31) (B : Nat) (w : World) (hB : Holds w B 3 [.int .i64 a, .int .i64 b, .int .i64 c]) :
    Calls Try.prog 39 #[.int .u32 x, .slice (some ⟨B, 0, none⟩) 3 3] w fun e w' => e = .returned (.int .u32 ([a, b, c].foldl (turnZ x) 0)) ∧ w = w' := by
  refine turned_any x [a, b, c] B 0 3 _ (by simp) ?_ ?_
  · intro i hi
    match i, hi with
    | 0, _ => exact ha
    | 1, _ => exact hb
    | 2, _ => exact hc
  · intro i hi
    rw [hB.cell]
    match i, hi with
    | 0, _ => rfl
    | 1, _ => rfl
    | 2, _ => rfl

def s0Z (x : Int) : Int := bits BinOp.xor IntKind.u32 ([7, 18].foldl (turnZ x) 0) (x / 8)
def s1Z (x : Int) : Int := bits BinOp.xor IntKind.u32 ([17, 19].foldl (turnZ x) 0) (x / 1024)
def bS1Z (x : Int) : Int := [6, 11, 25].foldl (turnZ x) 0
def bS0Z (x : Int) : Int := [2, 13, 22].foldl (turnZ x) 0

/-- the blocks of a call of block, and what they hold -/
structure InBlock (w wr : World) (H W S : List Int) : Prop where
  hb : Holds wr w.heap.size 47 (H.map (Value.int .u32))
  rs : ∃ Z, Z.length = 8 ∧ Holds wr (w.heap.size + 1) 47 Z
  ws : Holds wr (w.heap.size + 1 + 1) 61 (W.map (Value.int .u32))
  ss : Holds wr (w.heap.size + 1 + 1 + 1) 47 (S.map (Value.int .u32))
  below : Below w.heap.size w wr

theorem InBlock.next {w wr w' : World} {H W S : List Int} (h : InBlock w wr H W S) (hb : Below wr.heap.size wr w') : InBlock w w' H W S := by
  obtain ⟨h1, ⟨Z, hz, h2⟩, h3, h4, h5⟩ := h
  exact ⟨h1.below hb, ⟨Z, hz, h2.below hb⟩, h3.below hb, h4.below hb, h5.trans (hb.mono h5.size)⟩
theorem InBlock.drew {w wr : World} {H W S : List Int} (h : InBlock w wr H W S) : InBlock w wr.drew H W S := by
  obtain ⟨h1, ⟨Z, hz, h2⟩, h3, h4, h5⟩ := h
  exact ⟨h1, ⟨Z, hz, h2⟩, h3, h4, h5.drew⟩
theorem InBlock.drewN {w wr : World} {H W S : List Int} (h : InBlock w wr H W S) (n : Nat) : InBlock w (wr.drewN n) H W S := by
  obtain ⟨h1, ⟨Z, hz, h2⟩, h3, h4, h5⟩ := h
  exact ⟨h1, ⟨Z, hz, h2⟩, h3, h4, below_drewN h5 n⟩
theorem InBlock.alloc {w wr : World} {H W S : List Int} (h : InBlock w wr H W S) (o : Obj) : InBlock w (wr.alloc o) H W S := h.next (balloc _ _)
theorem InBlock.setW {w wr : World} {H W S : List Int} (h : InBlock w wr H W S) (i : Nat) (x : Int) : InBlock w (wr.setCell ⟨w.heap.size + 1 + 1, i, none⟩ (.int .u32 x)) H (W.set i x) S := by
  obtain ⟨h1, ⟨Z, hz, h2⟩, h3, h4, h5⟩ := h
  exact ⟨h1.apart (by simp; omega) _, ⟨Z, hz, h2.apart (by simp) _⟩, by rw [List.map_set]; exact h3.store i _, h4.apart (by simp) _, h5.setCell (by simp; omega) _⟩
theorem InBlock.setS {w wr : World} {H W S : List Int} (h : InBlock w wr H W S) (i : Nat) (x : Int) : InBlock w (wr.setCell ⟨w.heap.size + 1 + 1 + 1, i, none⟩ (.int .u32 x)) H W (S.set i x) := by
  obtain ⟨h1, ⟨Z, hz, h2⟩, h3, h4, h5⟩ := h
  exact ⟨h1.apart (by simp; omega) _, ⟨Z, hz, h2.apart (by simp) _⟩, h3.apart (by simp) _, by rw [List.map_set]; exact h4.store i _, h5.setCell (by simp; omega) _⟩

theorem u32_cell (L : List Int) (i : Nat) (h : i < L.length) : (L.map (Value.int .u32))[i]? = some (.int .u32 (L.getD i 0)) := by simp [h]
/-- a cell of the 16 numbers -/
theorem InBlock.cW {w wr : World} {H W S : List Int} (h : InBlock w wr H W S) (i : Nat) (hi : i < W.length) : wr.cell? ⟨w.heap.size + 1 + 1, i, none⟩ = some (.int .u32 (W.getD i 0)) := (h.ws.cell i).trans (u32_cell W i hi)
theorem InBlock.fW {w wr : World} {H W S : List Int} (h : InBlock w wr H W S) (i : Nat) : wr.frozen? ⟨w.heap.size + 1 + 1, i, none⟩ = false := h.ws.free i
theorem InBlock.cS {w wr : World} {H W S : List Int} (h : InBlock w wr H W S) (i : Nat) (hi : i < S.length) : wr.cell? ⟨w.heap.size + 1 + 1 + 1, i, none⟩ = some (.int .u32 (S.getD i 0)) := (h.ss.cell i).trans (u32_cell S i hi)
theorem InBlock.fS {w wr : World} {H W S : List Int} (h : InBlock w wr H W S) (i : Nat) : wr.frozen? ⟨w.heap.size + 1 + 1 + 1, i, none⟩ = false := h.ss.free i

theorem getD_set_same (L : List Int) (i : Nat) (x : Int) (h : i < L.length) : (L.set i x).getD i 0 = x := by simp [h]
theorem getD_set_other (L : List Int) (i j : Nat) (x : Int) (h : i ≠ j) : (L.set i x).getD j 0 = L.getD j 0 := by simp [h]

/-- the function value tells the numbers f -/
def Tells (w : World) (bm bi : Nat) (f : Nat → Int) : Prop :=
  ∀ (t : Nat) (w1 : World), t < 16 → Below w.heap.size w w1 → Calls Try.prog 32 #[.int .i64 t, .pointer (some ⟨bm, 0, none⟩), .pointer (some ⟨bi, 0, none⟩)] w1 fun e w2 => e = .returned (.int .u32 (f t)) ∧ Below w1.heap.size w1 w2

def schedZ (f : Nat → Int) (W : List Int) (t : Nat) : List Int :=
  if t < 16 then W.set t (f t)
  else W.set (t % 16) ((((W.getD (t % 16) 0 + s0Z (W.getD ((t + 1) % 16) 0)) % 4294967296 + s1Z (W.getD ((t + 14) % 16) 0)) % 4294967296 + W.getD ((t + 9) % 16) 0) % 4294967296)
def chZ (e f g : Int) : Int := bits BinOp.or IntKind.u32 (bits BinOp.and IntKind.u32 e f) (bits BinOp.andNot IntKind.u32 g e)
def majZ (a b c : Int) : Int := bits BinOp.xor IntKind.u32 (bits BinOp.and IntKind.u32 a (bits BinOp.xor IntKind.u32 b c)) (bits BinOp.and IntKind.u32 b c)
def oneZ (e f g h k x : Int) : Int := ((((h + bS1Z e) % 4294967296 + chZ e f g) % 4294967296 + k) % 4294967296 + x) % 4294967296
def twoZ (a b c : Int) : Int := (bS0Z a + majZ a b c) % 4294967296
theorem size44 : (Try.prog.info? 44).map (·.size) = some 1 := by kernel_rfl

theorem InBlock.moved {w wr w' : World} {H W : List Int} {a b c d e f g h : Int} (hr : InBlock w wr H W [a, b, c, d, e, f, g, h]) (hb : Below (w.heap.size + 1 + 1 + 1) wr w')
    (hg : Holds w' (w.heap.size + 1 + 1 + 1) 47 [.int .u32 a, .int .u32 a, .int .u32 b, .int .u32 c, .int .u32 d, .int .u32 e, .int .u32 f, .int .u32 g]) : InBlock w w' H W [a, a, b, c, d, e, f, g] := by
  obtain ⟨h1, ⟨Z, hz, h2⟩, h3, h4, h5⟩ := hr
  exact ⟨h1.under hb (by omega), ⟨Z, hz, h2.under hb (by omega)⟩, h3.under hb (by omega), hg, h5.trans (hb.mono (by omega))⟩
def roundZ (f : Nat → Int) (K : List Int) (t : Nat) (st : List Int × List Int) : List Int × List Int :=
  let one := oneZ (st.2.getD 4 0) (st.2.getD 5 0) (st.2.getD 6 0) (st.2.getD 7 0) (K.getD t 0) ((schedZ f st.1 t).getD (t % 16) 0)
  let two := twoZ (st.2.getD 0 0) (st.2.getD 1 0) (st.2.getD 2 0)
  (schedZ f st.1 t, [(one + two) % 4294967296, st.2.getD 0 0, st.2.getD 1 0, st.2.getD 2 0, (st.2.getD 3 0 + one) % 4294967296, st.2.getD 4 0, st.2.getD 5 0, st.2.getD 6 0])
def roundsZ (f : Nat → Int) (K H : List Int) : Nat → List Int × List Int
  | 0 => (List.replicate 16 0, H)
  | t + 1 => roundZ f K t (roundsZ f K H t)
/-- the first k numbers of the state more by those of H -/
def sumTo (H S : List Int) : Nat → List Int
  | 0 => S
  | k + 1 => (sumTo H S k).set k ((S.getD k 0 + H.getD k 0) % 4294967296)
def blockZ (f : Nat → Int) (K H : List Int) : List Int := sumTo H (roundsZ f K H 64).2 8

theorem sumTo_length (H S : List Int) : ∀ k, (sumTo H S k).length = S.length
  | 0 => rfl
  | k + 1 => by rw [sumTo, List.length_set]; exact sumTo_length H S k
theorem sumTo_getD (H S : List Int) (j : Nat) : ∀ k, k ≤ j → (sumTo H S k).getD j 0 = S.getD j 0
  | 0, _ => rfl
  | k + 1, h => by rw [sumTo, getD_set_other _ _ _ _ (by omega)]; exact sumTo_getD H S j k (by omega)

theorem index8_0 (h0 h1 h2 h3 h4 h5 h6 h7 : Int) (W : World) : (Instr.index 47 (.agg #[.int .u32 h0, .int .u32 h1, .int .u32 h2, .int .u32 h3, .int .u32 h4, .int .u32 h5, .int .u32 h6, .int .u32 h7]) (.int .i64 0)).run Try.prog W = .ok (.int .u32 h0) W := by kernel_rfl
theorem index8_1 (h0 h1 h2 h3 h4 h5 h6 h7 : Int) (W : World) : (Instr.index 47 (.agg #[.int .u32 h0, .int .u32 h1, .int .u32 h2, .int .u32 h3, .int .u32 h4, .int .u32 h5, .int .u32 h6, .int .u32 h7]) (.int .i64 1)).run Try.prog W = .ok (.int .u32 h1) W := by kernel_rfl
theorem index8_2 (h0 h1 h2 h3 h4 h5 h6 h7 : Int) (W : World) : (Instr.index 47 (.agg #[.int .u32 h0, .int .u32 h1, .int .u32 h2, .int .u32 h3, .int .u32 h4, .int .u32 h5, .int .u32 h6, .int .u32 h7]) (.int .i64 2)).run Try.prog W = .ok (.int .u32 h2) W := by kernel_rfl
theorem index8_3 (h0 h1 h2 h3 h4 h5 h6 h7 : Int) (W : World) : (Instr.index 47 (.agg #[.int .u32 h0, .int .u32 h1, .int .u32 h2, .int .u32 h3, .int .u32 h4, .int .u32 h5, .int .u32 h6, .int .u32 h7]) (.int .i64 3)).run Try.prog W = .ok (.int .u32 h3) W := by kernel_rfl
theorem index8_4 (h0 h1 h2 h3 h4 h5 h6 h7 : Int) (W : World) : (Instr.index 47 (.agg #[.int .u32 h0, .int .u32 h1, .int .u32 h2, .int .u32 h3, .int .u32 h4, .int .u32 h5, .int .u32 h6, .int .u32 h7]) (.int .i64 4)).run Try.prog W = .ok (.int .u32 h4) W := by kernel_rfl
theorem index8_5 (h0 h1 h2 h3 h4 h5 h6 h7 : Int) (W : World) : (Instr.index 47 (.agg #[.int .u32 h0, .int .u32 h1, .int .u32 h2, .int .u32 h3, .int .u32 h4, .int .u32 h5, .int .u32 h6, .int .u32 h7]) (.int .i64 5)).run Try.prog W = .ok (.int .u32 h5) W := by kernel_rfl
theorem index8_6 (h0 h1 h2 h3 h4 h5 h6 h7 : Int) (W : World) : (Instr.index 47 (.agg #[.int .u32 h0, .int .u32 h1, .int .u32 h2, .int .u32 h3, .int .u32 h4, .int .u32 h5, .int .u32 h6, .int .u32 h7]) (.int .i64 6)).run Try.prog W = .ok (.int .u32 h6) W := by kernel_rfl
theorem index8_7 (h0 h1 h2 h3 h4 h5 h6 h7 : Int) (W : World) : (Instr.index 47 (.agg #[.int .u32 h0, .int .u32 h1, .int .u32 h2, .int .u32 h3, .int .u32 h4, .int .u32 h5, .int .u32 h6, .int .u32 h7]) (.int .i64 7)).run Try.prog W = .ok (.int .u32 h7) W := by kernel_rfl
theorem index8 (h0 h1 h2 h3 h4 h5 h6 h7 : Int) (k : Nat) (hk : k < 8) (W : World) :
    (Instr.index 47 (.agg #[.int .u32 h0, .int .u32 h1, .int .u32 h2, .int .u32 h3, .int .u32 h4, .int .u32 h5, .int .u32 h6, .int .u32 h7]) (.int .i64 (k : Int))).run Try.prog W = .ok (.int .u32 ([h0, h1, h2, h3, h4, h5, h6, h7].getD k 0)) W := by
  match k, hk with
  | 0, _ => exact index8_0 h0 h1 h2 h3 h4 h5 h6 h7 W
  | 1, _ => exact index8_1 h0 h1 h2 h3 h4 h5 h6 h7 W
  | 2, _ => exact index8_2 h0 h1 h2 h3 h4 h5 h6 h7 W
  | 3, _ => exact index8_3 h0 h1 h2 h3 h4 h5 h6 h7 W
  | 4, _ => exact index8_4 h0 h1 h2 h3 h4 h5 h6 h7 W
  | 5, _ => exact index8_5 h0 h1 h2 h3 h4 h5 h6 h7 W
  | 6, _ => exact index8_6 h0 h1 h2 h3 h4 h5 h6 h7 W
  | 7, _ => exact index8_7 h0 h1 h2 h3 h4 h5 h6 h7 W

theorem Holds.laid {g : Nat} {t : TypeId} : ∀ (vs old pre : List Value) (w : World), Holds w g t (pre ++ old) → vs.length = old.length → Holds (w.setCells g pre.length vs) g t (pre ++ vs)
  | [], [], _, _, h, _ => h
  | [], _ :: _, _, _, _, hl => by simp at hl
  | _ :: _, [], _, _, _, hl => by simp at hl
  | v :: vs, x :: old, pre, w, h, hl => by
    have h1 := h.store pre.length v
    rw [show (pre ++ x :: old).set pre.length v = (pre ++ [v]) ++ old by simp] at h1
    have h2 := Holds.laid vs old (pre ++ [v]) _ h1 (by simpa using hl)
    rw [World.setCells]
    simpa using h2
theorem Holds.laid0 {w : World} {g : Nat} {t : TypeId} {old : List Value} (h : Holds w g t old) (vs : List Value) (hl : vs.length = old.length) : Holds (w.setCells g 0 vs) g t vs := Holds.laid vs old [] w h hl
theorem Below.setCells {B g : Nat} (hg : B ≤ g) {a : World} : ∀ (vs : List Value) (o : Nat) (w : World), Below B a w → Below B a (w.setCells g o vs)
  | [], _, _, h => h
  | v :: vs, o, w, h => by rw [World.setCells]; exact Below.setCells hg vs (o + 1) _ (h.setCell hg v)

theorem results_cell1 {fn : Func} {p : Tmp} {ty : TypeId} (hf : fn.results = #[.cell p ty]) (tmps : Array Value) (w : World) (g : Nat) (t : TypeId) (cs : List Value) (d : TypeDesc)
    (hp : tmps.getD p undef = .pointer (some ⟨g, 0, none⟩)) (hg : Holds w g t cs) (hu : Try.prog.underlying ty = some d) (hd : d.isRow = true) (hi : (Try.prog.info? ty).map (·.size) = some cs.length) :
    (results fn tmps).run Try.prog w = .ok (.agg cs.toArray) w := by
  have hp' : tmps[p]?.getD undef = .pointer (some ⟨g, 0, none⟩) := by simpa using hp
  have r1 := run_loadVar_mid (P := Try.prog) w g 0 ty cs d hg.range hu hd hi
  simp [results, hf, hp', asAddr, r1]

theorem copied {w wr : World} {H W : List Int} {a b c d e f g h : Int} (hr : InBlock w wr H W [a, b, c, d, e, f, g, h]) :
    ∀ (i : Nat) v, [Value.int .u32 a, .int .u32 b, .int .u32 c, .int .u32 d, .int .u32 e, .int .u32 f, .int .u32 g][i]? = some v → wr.drew.cell? ((⟨w.heap.size + 1 + 1 + 1, 0, none⟩ : Addr).add i) = some v := by
  intro i v hv
  rw [Addr.add_mid, Nat.zero_add]
  have hi : i < 7 := by have := (List.getElem?_eq_some_iff.1 hv).1; simpa using this
  have hc := hr.drew.cS i (by simp; omega)
  rw [hc, ← hv]
  match i, hi with
  | 0, _ => rfl
  | 1, _ => rfl
  | 2, _ => rfl
  | 3, _ => rfl
  | 4, _ => rfl
  | 5, _ => rfl
  | 6, _ => rfl

set_option maxRecDepth 100000 in
set_option maxHeartbeats 4000000 in
theorem block_any (K : List Int) (hK : K.length = 64) (h0 h1 h2 h3 h4 h5 h6 h7 : Int) (kb bm bi : Nat) (F : Nat → Int) (w : World)
    (hk : Holds w kb 45 (K.map (Value.int .u32))) (T : Tells w bm bi F) :
    Calls Try.prog 31 #[.pointer (some ⟨kb, 0, none⟩), .agg #[.int .u32 h0, .int .u32 h1, .int .u32 h2, .int .u32 h3, .int .u32 h4, .int .u32 h5, .int .u32 h6, .int .u32 h7], .func (.func 32) #[] #[.pointer (some ⟨bm, 0, none⟩), .pointer (some ⟨bi, 0, none⟩)]] w
      fun e w' => e = .returned (.agg ((blockZ F K [h0, h1, h2, h3, h4, h5, h6, h7]).map (Value.int .u32)).toArray) ∧ Below w.heap.size w w' := by
  have TT := Lib.hid T
  have KL := Lib.hid hK
  have HK := Lib.hid hk
  have kl := hk.size_lt
  clear T hk hK
  go_enter Try.func31, Try.ntmps31
  go_wp2_with fail
  go_loopw [9, 18] (fun _ tv wr => ∃ (t : Nat) (W : List Int) (a b c d e f g h : Int), t ≤ 64 ∧ tv = .int .i64 t ∧ W.length = 16 ∧ Hid (roundsZ F K [h0, h1, h2, h3, h4, h5, h6, h7] t = (W, [a, b, c, d, e, f, g, h])) ∧ InBlock w wr [h0, h1, h2, h3, h4, h5, h6, h7] W [a, b, c, d, e, f, g, h]) (fun _ tv _ => 64 - (intOf tv).toNat)
  case atStart => exact ⟨0, List.replicate 16 0, h0, h1, h2, h3, h4, h5, h6, h7, by omega, rfl, by simp, rfl, ⟨(((Holds.made w 47 _).alloc _).alloc _).alloc _, ⟨_, rfl, ((Holds.made' (by simp) 47 _).alloc _).alloc _⟩, (Holds.made' (by simp) 61 _).alloc _, Holds.made' (by simp) 47 _, bthen (balloc _ _) (bthen (balloc _ _) (bthen (balloc _ _) (balloc _ _)))⟩⟩
  case round =>
    obtain ⟨t, W, a, b, c, d, e, g, h, j, ht, rfl, hW, hst, hr⟩ := hrel
    obtain ⟨wo, rfl⟩ : ∃ wo : World, wo = wr := ⟨_, rfl⟩
    by_cases hlt : t < 64
    · have ht0 : (0 : Int) ≤ (t : Int) := by omega
      go_upto_if 25 with fail
      go_cut [] (fun wc => InBlock w wc [h0, h1, h2, h3, h4, h5, h6, h7] (schedZ F W t) [a, b, c, d, e, g, h, j])
      case first =>
        by_cases h16 : t < 16
        · have HS := Lib.hid (show schedZ F W t = W.set t (F t) by rw [schedZ, if_pos h16])
          have l3 := hr.ws.size_lt
          have hm := Lib.hid (show t % 16 = t by omega)
          go_wp2_with fail
          refine (TT.out t wo h16 hr.below).mono ?_
          rintro e1 w1 ⟨rfl, hb1⟩
          have hr1 := hr.next hb1
          have c0 := hr1.cW (t % 16) (by omega)
          have f0 := hr1.fW (t % 16)
          have HR := Lib.hid (hr1.setW (t % 16) (F t))
          clear hr1
          go_wp2_with fail
          go_meet
          case rel => rw [HS.out]; have h := HR.out; rw [hm.out] at h ⊢; exact h
        · have HS := Lib.hid (show schedZ F W t = W.set (t % 16) ((((W.getD (t % 16) 0 + s0Z (W.getD ((t + 1) % 16) 0)) % 4294967296 + s1Z (W.getD ((t + 14) % 16) 0)) % 4294967296 + W.getD ((t + 9) % 16) 0) % 4294967296) by rw [schedZ, if_neg h16])
          have c1 := hr.cW ((t + 1) % 16) (by omega)
          have c14 := hr.cW ((t + 14) % 16) (by omega)
          generalize hx : W.getD ((t + 1) % 16) 0 = x at c1
          generalize hy : W.getD ((t + 14) % 16) 0 = y at c14
          have HX := Lib.hid hx
          have HY := Lib.hid hy
          clear hx hy
          have i1 : ((t : Int) + 1) % 16 < 16 := by omega
          have i14 : ((t : Int) + 14) % 16 < 16 := by omega
          have j1 : 0 ≤ ((t : Int) + 1) % 16 := by omega
          have j14 : 0 ≤ ((t : Int) + 14) % 16 := by omega
          go_upto_region 9 with fail
          go_quiet (fail)
          go_wp2_with fail
          have hrq := hr.drewN nq
          have c0 := hrq.cW (t % 16) (by omega)
          have f0 := hrq.fW (t % 16)
          have HRQ := Lib.hid hrq
          clear hrq c1 c14
          generalize hv : W.getD (t % 16) 0 = v at c0
          have HV := Lib.hid hv
          clear hv
          generalize wo.drewN nq = w2 at *
          have l0 := World.new_ne w2 _ c0
          have ca := (HRQ.out.alloc (.cells #[.int .i64 7, .int .i64 18] 3)).cW (t % 16) (by omega)
          have fa := (HRQ.out.alloc (.cells #[.int .i64 7, .int .i64 18] 3)).fW (t % 16)
          rw [HV.out] at ca
          go_upto_region 10 with fail
          go_cut [] (fun wc => InBlock w wc [h0, h1, h2, h3, h4, h5, h6, h7] (W.set (t % 16) ((v + s0Z x) % 4294967296)) [a, b, c, d, e, g, h, j])
          case first =>
            go_region_with ((go_at_call 39; refine (turned2 _ _ _ (by omega) (by omega) _ _ (Holds.made _ 3 [_, _]).drawn).mono ?_; rintro e1 w1 ⟨rfl, rfl⟩))
            all_goals (go_wp2_with fail; go_meet; case rel => exact ((HRQ.out.alloc _).setW _ _).drew)
          case rest =>
            have hcw := hcut.cW (t % 16) (by rw [List.length_set]; omega)
            rw [getD_set_same _ _ _ (by omega)] at hcw
            have hcf := hcut.fW (t % 16)
            have n1 := World.new_ne wc _ hcw
            have ca1 := (hcut.alloc (.cells #[.int .i64 17, .int .i64 19] 3)).cW (t % 16) (by rw [List.length_set]; omega)
            rw [getD_set_same _ _ _ (by omega)] at ca1
            have fa1 := (hcut.alloc (.cells #[.int .i64 17, .int .i64 19] 3)).fW (t % 16)
            have HC := Lib.hid hcut
            generalize hv1 : (v + s0Z x) % 4294967296 = v1 at hcw ca1
            have HV1 := Lib.hid hv1
            clear hv1 hcut c0 f0 l0 ca fa
            go_upto_region 11 with fail
            go_cut [] (fun wd => InBlock w wd [h0, h1, h2, h3, h4, h5, h6, h7] (W.set (t % 16) ((v1 + s1Z y) % 4294967296)) [a, b, c, d, e, g, h, j])
            case first =>
              go_region_with ((go_at_call 39; refine (turned2 _ _ _ (by omega) (by omega) _ _ (Holds.made _ 3 [_, _]).drawn).mono ?_; rintro e1 w1 ⟨rfl, rfl⟩))
              all_goals (go_wp2_with fail; go_meet; case rel => have h := ((HC.out.alloc (.cells #[.int .i64 17, .int .i64 19] 3)).setW (t % 16) ((v1 + s1Z y) % 4294967296)).drew; rw [List.set_set] at h; exact h)
            case rest =>
              have c2 := hcut.cW (t % 16) (by rw [List.length_set]; omega)
              rw [getD_set_same _ _ _ (by omega)] at c2
              have f2 := hcut.fW (t % 16)
              have c9 := hcut.cW ((t + 9) % 16) (by rw [List.length_set]; omega)
              rw [getD_set_other _ _ _ _ (by omega)] at c9
              generalize hu : W.getD ((t + 9) % 16) 0 = u at c9
              generalize hv2 : (v1 + s1Z y) % 4294967296 = v2 at c2
              have HV2 := Lib.hid hv2
              have HU := Lib.hid hu
              have HC2 := Lib.hid hcut
              have i9 : ((t : Int) + 9) % 16 < 16 := by omega
              have j9 : 0 ≤ ((t : Int) + 9) % 16 := by omega
              clear hv2 hu hcut hcw hcf n1 ca1 fa1
              go_upto_region 12 with fail
              go_region
              all_goals (go_wp2_with fail; go_meet; case rel => have hz := (HC2.out.setW (t % 16) ((v2 + u) % 4294967296)).drew; rw [List.set_set] at hz; rw [HS.out, HV.out, HX.out, HY.out, HV1.out, HV2.out, HU.out]; exact hz)
      case rest =>
        have hS := Lib.hid hcut
        have cS0 := hcut.cS 0 (by simp)
        have cS1 := hcut.cS 1 (by simp)
        have cS2 := hcut.cS 2 (by simp)
        have cS3 := hcut.cS 3 (by simp)
        have cS4 := hcut.cS 4 (by simp)
        have cS5 := hcut.cS 5 (by simp)
        have cS6 := hcut.cS 6 (by simp)
        have cS7 := hcut.cS 7 (by simp)
        simp only [List.getD_cons_zero, List.getD_cons_succ] at cS0 cS1 cS2 cS3 cS4 cS5 cS6 cS7
        have cK := ((HK.out.under hcut.below kl).cell t).trans (u32_cell K t (by rw [KL.out]; exact hlt))
        have lW : (schedZ F W t).length = 16 := by unfold schedZ; split <;> rw [List.length_set, hW]
        have cN := hcut.cW (t % 16) (by omega)
        generalize hkt : K.getD t 0 = kt at cK
        generalize hnt : (schedZ F W t).getD (t % 16) 0 = nt at cN
        have HKT := Lib.hid hkt
        have HNT := Lib.hid hnt
        have ht64 : (t : Int) < 64 := by omega
        have m0 := World.new_ne wc _ cS0
        have m1 := World.new_ne wc _ cN
        have m2 := World.new_ne wc _ cK
        clear hkt hnt hcut
        go_upto_region 13 with fail
        go_cut [13] (fun s13 wd => s13 = .int .u32 (oneZ e g h j kt nt) ∧ InBlock w wd [h0, h1, h2, h3, h4, h5, h6, h7] (schedZ F W t) [a, b, c, d, e, g, h, j])
        case first =>
          go_region_held3 (fun w' => w'.cell? ⟨w.heap.size + 1 + 1 + 1, 7, none⟩ = some (.int .u32 j) ∧ w'.cell? ⟨w.heap.size + 1 + 1 + 1, 4, none⟩ = some (.int .u32 e) ∧ w'.cell? ⟨w.heap.size + 1 + 1 + 1, 5, none⟩ = some (.int .u32 g) ∧ w'.cell? ⟨w.heap.size + 1 + 1 + 1, 6, none⟩ = some (.int .u32 h) ∧ w'.cell? ⟨kb, t, none⟩ = some (.int .u32 kt) ∧ w'.cell? ⟨w.heap.size + 1 + 1, t % 16, none⟩ = some (.int .u32 nt)) (go_keep)
            ((go_at_call 39; refine (turned3 _ _ _ _ (by omega) (by omega) (by omega) _ _ (Holds.made _ 3 [_, _, _]).drawn).mono ?_; rintro e1 w1 ⟨rfl, rfl⟩))
          go_wp2_with fail
          go_meet
          case rel => exact ⟨rfl, (hS.out.alloc _).drew⟩
        case rest =>
          obtain ⟨rfl, hcut⟩ := hcut
          generalize ho : oneZ e g h j kt nt = one
          have HO := Lib.hid ho
          have hS2 := Lib.hid hcut
          have dS0 := hcut.cS 0 (by simp)
          have dS1 := hcut.cS 1 (by simp)
          have dS2 := hcut.cS 2 (by simp)
          simp only [List.getD_cons_zero, List.getD_cons_succ] at dS0 dS1 dS2
          have m3 := World.new_ne _ _ dS0
          clear ho hcut cS0 cS1 cS2 cS3 cS4 cS5 cS6 cS7 cK cN m0 m1 m2
          go_upto_region 14 with fail
          go_cut [14] (fun s14 we => s14 = .int .u32 (twoZ a b c) ∧ InBlock w we [h0, h1, h2, h3, h4, h5, h6, h7] (schedZ F W t) [a, b, c, d, e, g, h, j])
          case first =>
            go_region_held3 (fun w' => w'.cell? ⟨w.heap.size + 1 + 1 + 1, 0, none⟩ = some (.int .u32 a) ∧ w'.cell? ⟨w.heap.size + 1 + 1 + 1, 1, none⟩ = some (.int .u32 b) ∧ w'.cell? ⟨w.heap.size + 1 + 1 + 1, 2, none⟩ = some (.int .u32 c)) (go_keep)
              ((go_at_call 39; refine (turned3 _ _ _ _ (by omega) (by omega) (by omega) _ _ (Holds.made _ 3 [_, _, _]).drawn).mono ?_; rintro e1 w1 ⟨rfl, rfl⟩))
            go_wp2_with fail
            go_meet
            case rel => exact ⟨rfl, (hS2.out.alloc _).drew⟩
          case rest =>
            obtain ⟨rfl, hcut⟩ := hcut
            generalize ho : twoZ a b c = two
            have HO2 := Lib.hid ho
            have hS3 := Lib.hid hcut
            clear ho hcut dS0 dS1 dS2 m3
            go_upto_region 15 with fail
            go_cut [] (fun wf => InBlock w wf [h0, h1, h2, h3, h4, h5, h6, h7] (schedZ F W t) [a, a, b, c, d, e, g, h])
            case first =>
              go_region_law ((refine step_copy_splice rfl (.tmp 121) (.tmp 122) 55 55 rfl 44 Try.underlying55 size44 (some ⟨w.heap.size + 1 + 1 + 1, 1, none⟩) (some ⟨w.heap.size + 1 + 1 + 1, 0, none⟩) 7 7 7 8 rfl rfl (w.heap.size + 1 + 1 + 1) 1 [.int .u32 a, .int .u32 b, .int .u32 c, .int .u32 d, .int .u32 e, .int .u32 g, .int .u32 h, .int .u32 j] 47 hS3.out.ss [.int .u32 a, .int .u32 b, .int .u32 c, .int .u32 d, .int .u32 e, .int .u32 g, .int .u32 h] rfl (fun _ => ⟨rfl, _, rfl, copied hS3.out⟩) (by simp) (by simp [Value.oneCell']) (w.heap.size + 1 + 1 + 1) _ (Below.refl _ _) (Nat.le_refl _) ?_; intro w4 hg4 hb4))
              go_wp2_with fail
              go_meet
              case rel => exact hS3.out.drew.moved hb4 hg4.out
            case rest =>
              have e4 := hcut.cS 4 (by simp)
              have e0 := hcut.cS 0 (by simp)
              simp only [List.getD_cons_zero, List.getD_cons_succ] at e4 e0
              have f4 := hcut.fS 4
              have f0 := hcut.fS 0
              have hz := Lib.hid ((hcut.setS 4 ((d + one) % 4294967296)).setS 0 ((one + two) % 4294967296))
              clear hcut
              go_wp2_with fail
              go_roundw
              case rel => exact ⟨t + 1, _, _, _, _, _, _, _, _, _, by omega, by go_num, lW, (show roundsZ F K _ (t + 1) = _ by rw [roundsZ, hst.out, ← HO.out, ← HO2.out, ← HKT.out, ← HNT.out]; rfl), hz.out⟩
              case measure => simp [intOf]; omega
    · obtain rfl : t = 64 := by omega
      have q0 := hr.hb.cell 0
      have q1 := hr.hb.cell 1
      have q2 := hr.hb.cell 2
      have q3 := hr.hb.cell 3
      have q4 := hr.hb.cell 4
      have q5 := hr.hb.cell 5
      have q6 := hr.hb.cell 6
      have q7 := hr.hb.cell 7
      simp only [List.map_cons, List.getElem?_cons_zero, List.getElem?_cons_succ] at q0 q1 q2 q3 q4 q5 q6 q7
      have hS := Lib.hid (show (roundsZ F K [h0, h1, h2, h3, h4, h5, h6, h7] 64).2 = [a, b, c, d, e, g, h, j] by rw [hst.out])
      clear hst
      go_wp2_with fail
      go_loopw [15, 16, 135] (fun _ _ kv wr => ∃ k : Nat, k ≤ 8 ∧ kv = .int .i64 k ∧ InBlock w wr [h0, h1, h2, h3, h4, h5, h6, h7] W (sumTo [h0, h1, h2, h3, h4, h5, h6, h7] [a, b, c, d, e, g, h, j] k)) (fun _ _ kv _ => 8 - (intOf kv).toNat)
      case atStart => exact ⟨0, by omega, rfl, hr⟩
      case round =>
        obtain ⟨k, hk, rfl, hr⟩ := hrel
        by_cases hlt : k < 8
        · have hix := index8 h0 h1 h2 h3 h4 h5 h6 h7 k hlt
          have ck := hr.cS k (by rw [sumTo_length]; exact hlt)
          rw [sumTo_getD _ _ k k (Nat.le_refl _)] at ck
          have fk := hr.fS k
          generalize hx : [h0, h1, h2, h3, h4, h5, h6, h7].getD k 0 = x at hix
          generalize hy : [a, b, c, d, e, g, h, j].getD k 0 = y at ck
          have hz := Lib.hid (hr.setS k ((y + x) % 4294967296))
          have HX := Lib.hid hx
          have HY := Lib.hid hy
          clear hx hy hr
          go_wp2_with fail
          go_roundw
          case rel => exact ⟨k + 1, by omega, by go_num, by rw [sumTo, HX.out, HY.out]; exact hz.out⟩
          case measure => simp [intOf]; omega
        · obtain rfl : k = 8 := by omega
          obtain ⟨Z, hZ, hrs⟩ := hr.rs
          have hss := hr.ss
          have hbl := Lib.hid hr.below
          have hlen : ((sumTo [h0, h1, h2, h3, h4, h5, h6, h7] [a, b, c, d, e, g, h, j] 8).map (Value.int .u32)).length = 8 := by rw [List.length_map, sumTo_length]; rfl
          have hone : ∀ v ∈ (sumTo [h0, h1, h2, h3, h4, h5, h6, h7] [a, b, c, d, e, g, h, j] 8).map (Value.int .u32), v.oneCell' = true := fun v hv => by
            obtain ⟨x, _, rfl⟩ := List.mem_map.1 hv
            rfl
          have hfin : blockZ F K [h0, h1, h2, h3, h4, h5, h6, h7] = sumTo [h0, h1, h2, h3, h4, h5, h6, h7] [a, b, c, d, e, g, h, j] 8 := by rw [blockZ, hS.out]
          have HFIN := Lib.hid hfin
          generalize hL : (sumTo [h0, h1, h2, h3, h4, h5, h6, h7] [a, b, c, d, e, g, h, j] 8).map (Value.int .u32) = L at hss hlen hone
          have HL := Lib.hid hL
          clear hL
          have HSS := Lib.hid hss
          have HRS := Lib.hid hrs
          have HLEN := Lib.hid hlen
          have HONE := Lib.hid hone
          have HZ := Lib.hid hZ
          clear hss hrs hlen hone hZ hr hfin q0 q1 q2 q3 q4 q5 q6 q7
          have s47 : (Try.prog.info? 47).map (·.size) = some L.length := by rw [HLEN.out]; exact size47
          have S47 := Lib.hid s47
          have t47 : wr.there (w.heap.size + 1) 0 L.toArray.size := (show wr.there (w.heap.size + 1) 0 L.length by rw [HLEN.out, ← HZ.out]; exact HRS.out.there')
          have T47 := Lib.hid t47
          have z47 : (Try.prog.info? 47).map (·.size) = some L.toArray.size := S47.out
          have Z47 := Lib.hid z47
          clear s47 t47 z47
          go_wp2_with (first | (refine wpList_load_mid rfl 47 (.tmp 8) rfl (w.heap.size + 1 + 1 + 1) 0 rfl L _ HSS.out.range Try.underlying46 rfl S47.out ?_) | (refine wpList_store_mid rfl 47 (.tmp 6) (.tmp 146) rfl (w.heap.size + 1) 0 L.toArray rfl rfl T47.out Z47.out (all_oneCell_toArray HONE.out) ?_))
          exact bodyPost_ret (v := .agg L.toArray) (results_cell1 (p := 6) Try.results31 _ _ (w.heap.size + 1) 47 L _ rfl (HRS.out.laid0 L (by rw [HLEN.out, HZ.out])) Try.underlying46 rfl S47.out) rfl ⟨by rw [HFIN.out, HL.out], Below.setCells (by omega) _ _ _ hbl.out⟩
end Go.Proofs.Ytmaoaljohjkjeaa
