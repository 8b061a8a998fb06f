/- The contract of the document's block: the eight numbers behind a block, over Nat. Condition: 8, 16 and 64 numbers, each below 2 to the 32nd. -/
import Derived.Test.YtmaoaljohjkjeaaKeepRow
import Derived.Test.YtmaoaljohjkjeaaRefTurn
import Derived.Test.YtmaoaljohjkjeaaRefWords
import Derived.Test.YtmaoaljohjkjeaaTexts
import Derived.StillTailTactics
import Derived.Deep.Onto
namespace Go.Proofs.Ytmaoaljohjkjeaa
open Go.ChangeShapes Go.WideShapes Go.ChangeAt Go.RowKit

theorem own_at {w : World} {base t n : Nat} {v : Value} {xs : List Value} (h : w.ownsRow base t 1 v n xs) (hn : 0 < n) : ∃ g cap, v = .slice (some ⟨g, 0, none⟩) n cap ∧ n ≤ cap := by
  rcases h.2 with ⟨_, h0⟩ | ⟨g, cap, cur, hv, _, _, hc, _⟩
  · omega
  · exact ⟨g, cap, hv, hc⟩

def findRegion (n : Nat) : Code → Option (Array Oper)
  | .region k ops _ => if k = n then some ops else none
  | .seq a b => match findRegion n a with
    | some x => some x
    | none => findRegion n b
  | .block _ c => findRegion n c
  | .loop c => findRegion n c
  | .scope c => findRegion n c
  | .cond _ a b => match findRegion n a with
    | some x => some x
    | none => findRegion n b
  | _ => none
noncomputable def ops12 : Array Oper := ((Try.f37.body.bind (findRegion 12)).getD #[])
noncomputable def ops13 : Array Oper := ((Try.f37.body.bind (findRegion 13)).getD #[])
noncomputable def ops17 : Array Oper := ((Try.f37.body.bind (findRegion 17)).getD #[])
theorem tail12 : Region.lexTailB .any ops12 31 = true := by kernel_rfl
theorem tail13 : Region.lexTailB .any ops13 24 = true := by kernel_rfl
theorem tail17 : Region.lexTailB .any ops17 11 = true := by kernel_rfl
theorem eightN {S : List Nat} (h : S.length = 8) : ∃ a b c d e f g i, S = [a, b, c, d, e, f, g, i] := by
  match S, h with
  | [a, b, c, d, e, f, g, i], _ => exact ⟨a, b, c, d, e, f, g, i, rfl⟩
theorem all_bit (i : Nat) : (4294967295 : Nat).testBit i = decide (i < 32) := Nat.testBit_two_pow_sub_one 32 i
theorem chref (e f g : Nat) (he : e < 4294967296) (hf : f < 4294967296) (hg : g < 4294967296) : (e &&& f) ^^^ ((4294967295 ^^^ e) &&& g) = chN e f g := by
  unfold chN
  apply Nat.eq_of_testBit_eq
  intro i
  simp only [Nat.testBit_and, Nat.testBit_xor, all_bit]
  by_cases hi : i < 32
  · simp only [hi, decide_true]
    cases e.testBit i <;> cases f.testBit i <;> cases g.testBit i <;> rfl
  · rw [high_bit he hi, high_bit hf hi, high_bit hg hi]; simp
theorem majref (a b c : Nat) : ((a &&& b) ^^^ (a &&& c)) ^^^ (b &&& c) = majN a b c := by
  unfold majN
  apply Nat.eq_of_testBit_eq
  intro i
  simp only [Nat.testBit_and, Nat.testBit_xor]
  cases a.testBit i <;> cases b.testBit i <;> cases c.testBit i <;> rfl
theorem chbits (e f g : Nat) (he : e < 4294967296) (hf : f < 4294967296) (hg : g < 4294967296) :
    bits .xor .u32 (bits .and .u32 (e : Int) (f : Int)) (bits .and .u32 (bits .xor .u32 IntKind.u32.max (e : Int)) (g : Int)) = (chN e f g : Nat) := by
  have hm : (4294967295 : Nat) ^^^ e < 4294967296 := xor_lt (by decide) he
  rw [show IntKind.u32.max = ((4294967295 : Nat) : Int) from rfl, u32_xor_nat 4294967295 e (by decide) he, u32_and_nat e f he hf, u32_and_nat _ g hm hg, u32_xor_nat _ _ (and_lt he) (and_lt hm), chref e f g he hf hg]
theorem majbits (a b c : Nat) (ha : a < 4294967296) (hb : b < 4294967296) (hc : c < 4294967296) :
    bits .xor .u32 (bits .xor .u32 (bits .and .u32 (a : Int) (b : Int)) (bits .and .u32 (a : Int) (c : Int))) (bits .and .u32 (b : Int) (c : Int)) = (majN a b c : Nat) := by
  rw [u32_and_nat a b ha hb, u32_and_nat a c ha hc, u32_and_nat b c hb hc, u32_xor_nat _ _ (and_lt ha) (and_lt ha), u32_xor_nat _ _ (xor_lt (and_lt ha) (and_lt ha)) (and_lt hb), majref]
theorem sumbits (e f g h k x : Nat) (he : e < 4294967296) (hf : f < 4294967296) (hg : g < 4294967296) :
    (((h : Int) + (bS1N e : Nat) + bits .xor .u32 (bits .and .u32 (e : Int) (f : Int)) (bits .and .u32 (bits .xor .u32 (if IntKind.u32.signed = true then -1 else IntKind.u32.max) (e : Int)) (g : Int)) + (k : Int)) % 4294967296 + (x : Int)) % 4294967296 = (oneN e f g h k x : Nat) := by
  rw [if_neg (by decide), chbits e f g he hf hg, oneN]
  generalize bS1N e = p
  generalize chN e f g = q
  omega
theorem twobits (a b c o : Nat) (ha : a < 4294967296) (hb : b < 4294967296) (hc : c < 4294967296) :
    ((o : Int) + (bS0N a : Nat) + bits .xor .u32 (bits .xor .u32 (bits .and .u32 (a : Int) (b : Int)) (bits .and .u32 (a : Int) (c : Int))) (bits .and .u32 (b : Int) (c : Int))) % 4294967296 = ((o + twoN a b c) % 4294967296 : Nat) := by
  rw [majbits a b c ha hb hc, twoN]
  generalize bS0N a = p
  generalize majN a b c = q
  omega
theorem addbits (d o : Nat) : ((d : Int) + (o : Int)) % 4294967296 = ((d + o) % 4294967296 : Nat) := by omega
theorem roundN_row (k x a b c d e f g h : Nat) : roundN k x [a, b, c, d, e, f, g, h] = [(oneN e f g h k x + twoN a b c) % 4294967296, a, b, c, (d + oneN e f g h k x) % 4294967296, e, f, g] := by
  unfold roundN
  simp only [List.getD_cons_zero, List.getD_cons_succ]
theorem twowrap (a b c o : Nat) (ha : a < 4294967296) (hb : b < 4294967296) (hc : c < 4294967296) :
    IntKind.u32.wrap (IntKind.u32.wrap ((o : Int) + (bS0N a : Nat)) + bits .xor .u32 (bits .xor .u32 (bits .and .u32 (a : Int) (b : Int)) (bits .and .u32 (a : Int) (c : Int))) (bits .and .u32 (b : Int) (c : Int))) = ((o + twoN a b c) % 4294967296 : Nat) := by
  rw [← twobits a b c o ha hb hc, IntKind.wrap_u32', IntKind.wrap_u32']
  omega
/-- the last loop: the first i numbers are sums -/
def sumR (S H : List Nat) : Nat → List Nat
  | 0 => S
  | i + 1 => (sumR S H i).set i (((sumR S H i).getD i 0 + H.getD i 0) % 4294967296)
theorem sumR_length (S H : List Nat) : ∀ i, (sumR S H i).length = S.length
  | 0 => rfl
  | i + 1 => by rw [sumR, List.length_set]; exact sumR_length S H i
theorem sumR_list (a b c d e f g h a' b' c' d' e' f' g' h' : Nat) : sumR [a, b, c, d, e, f, g, h] [a', b', c', d', e', f', g', h'] 8 = sumN [a, b, c, d, e, f, g, h] [a', b', c', d', e', f', g', h'] := by kernel_rfl
theorem sumR_eq (S H : List Nat) (hs : S.length = 8) (hh : H.length = 8) : sumR S H 8 = sumN S H := by
  obtain ⟨a, b, c, d, e, f, g, h, rfl⟩ := eightN hs
  obtain ⟨a', b', c', d', e', f', g', h', rfl⟩ := eightN hh
  exact sumR_list a b c d e f g h a' b' c' d' e' f' g' h'
theorem addwrap (a b : Nat) : IntKind.u32.wrap ((a : Int) + (b : Int)) = ((a + b) % 4294967296 : Nat) := by rw [IntKind.wrap_u32']; omega

set_option maxRecDepth 100000 in
set_option maxHeartbeats 4000000 in
theorem blockref_any (H P K : List Nat) (lh : H.length = 8) (lp : P.length = 16) (lk : K.length = 64) (sh : Small H) (sp : Small P)
    (Ah Ap Ak : Option Addr) (ch cp ck : Nat) (w : World) (hh : Nums .u32 w Ah (castZ H)) (hp : Nums .u32 w Ap (castZ P)) (hk : Nums .u32 w Ak (castZ K)) :
    Calls Try.prog 37 #[.slice Ah 8 ch, .slice Ap 16 cp, .slice Ak 64 ck] w fun e w' => ∃ B c, e = .returned (.slice (some ⟨B, 0, none⟩) 8 c) ∧ w'.ownsRow w.heap.size 44 1 (.slice (some ⟨B, 0, none⟩) 8 c) 8 ((castZ (blockN K (wordN fun t => P.getD t 0) H)).map (Value.int .u32)) ∧ Below w.heap.size w w' := by
  have HH : Keep _ := ⟨hh⟩
  have HP : Keep _ := ⟨hp⟩
  have HK : Keep _ := ⟨hk⟩
  have SH : Keep _ := ⟨sh⟩
  have SP : Keep _ := ⟨sp⟩
  clear hh hp hk sh sp
  obtain ⟨i0, hi, hz0, hz1, hz2⟩ := info_parts info44
  have I0 : Keep _ := ⟨hi⟩
  have I1 : Keep _ := ⟨hz0⟩
  have I2 : Keep _ := ⟨hz1⟩
  have I3 : Keep _ := ⟨hz2⟩
  clear hi hz0 hz1 hz2
  have NP : Keep (((castZ P).map (Value.int .u32)).length = 16 * 1) := ⟨by rw [List.length_map, castZ_length, lp]⟩
  have OP : Keep _ := ⟨ones (castZ P) .u32⟩
  have wsP : Keep ((castZ P).map (Value.int .u32) = (castZ (wsN (fun t => P.getD t 0) 16)).map (Value.int .u32)) := ⟨by
    congr 2
    match P, lp with
    | [a, b, c, d, e, f, g, h, i, j, k, l, m, n, o, p], _ => rfl⟩
  have empty : Keep ((w.alloc (.cells #[] 44)).ownsRow w.heap.size 44 1 (.slice (some ⟨w.heap.size, 0, none⟩) 0 0) 0 []) := ⟨⟨rfl, .inr ⟨w.heap.size, 0, #[], rfl, Nat.le_refl _, heap_alloc_new w _, Nat.le_refl _, by unfold maxLen; omega, rfl, rfl⟩⟩⟩
  have q3 : Keep (0 + 16 ≤ maxLen) := ⟨by unfold maxLen; omega⟩
  have q5 : Keep (w.heap.size ≤ (w.alloc (.cells #[] 44)).heap.size) := ⟨by simp⟩
  obtain ⟨pb, po, rfl, _⟩ := HP.out.at_ 0 (by rw [castZ_length, lp]; omega)
  have PC : Keep (∀ j u, ((castZ P).map (Value.int .u32))[j]? = some u → (w.alloc (.cells #[] 44)).cell? ((⟨pb, po, none⟩ : Addr).add j) = some u) := ⟨by
    intro j u hu
    have hj : j < (castZ P).length := by have := (List.getElem?_eq_some_iff.1 hu).1; simpa using this
    obtain ⟨b, off, hA, hc⟩ := (HP.out.below (balloc w (.cells #[] 44))).at_ j hj
    cases hA
    rw [map_cell (Value.int .u32) (castZ P) j hj 0] at hu
    rw [Addr.add_mid, hc, ← hu]⟩
  go_enter Try.func37, Try.ntmps37
  go_wp2_with (at_builtin; refine wpList_append_own _ rfl (.tmp 13) (.tmp 14) 55 rfl w.heap.size 44 i0 (.int .u32 0) 1 4 Try.underlying55 I0.out I1.out I2.out I3.out rfl (by decide) _ 0 [] rfl empty.out ⟨pb, po, none⟩ 16 cp ((castZ P).map (Value.int .u32)) rfl NP.out PC.out OP.out q3.out (by decide) q5.out ?_; intro v1 w1 hown1 hgrow1 _)
  rw [List.nil_append, wsP.out] at hown1
  have HB1 : Keep (Below w.heap.size w w1) := ⟨(balloc w _).grown hgrow1 q5.out (fun g hg => (empty.out.lt g hg).1)⟩
  have HO1 : Keep _ := ⟨hown1⟩
  clear hown1 hgrow1
  go_loopw [7, 8] (fun v tv wr => ∃ t : Nat, 16 ≤ t ∧ t ≤ 64 ∧ tv = .int .i64 t ∧ wr.ownsRow w.heap.size 44 1 v t ((castZ (wsN (fun t => P.getD t 0) t)).map (Value.int .u32)) ∧ Below w.heap.size w wr) (fun _ tv _ => 64 - (intOf tv).toNat)
  case atStart => exact ⟨16, by omega, by omega, rfl, HO1.out, HB1.out⟩
  case round =>
    obtain ⟨t, ht16, ht, rfl, hown, hb⟩ := hrel
    have HOWN : Keep _ := ⟨hown⟩
    have HB : Keep _ := ⟨hb⟩
    clear hown hb
    by_cases hlt : t < 64
    · have gt : decide ((t : Int) < 64) = true := by simp; omega
      obtain ⟨g, cap, rfl, hcap⟩ := own_at HOWN.out (by omega)
      obtain ⟨m, rfl⟩ : ∃ m, t = m + 16 := ⟨t - 16, by omega⟩
      have lw := wsN_length (fun t => P.getD t 0) (m + 16)
      have hstep : wsN (fun t => P.getD t 0) (m + 16 + 1) = wsN (fun t => P.getD t 0) (m + 16) ++ [stepN (wsN (fun t => P.getD t 0) (m + 16)) (m + 16)] := by
        rw [wsN, if_neg (by omega)]
      have small : ∀ j, (wsN (fun t => P.getD t 0) (m + 16)).getD j 0 < 4294967296 := fun j => by
        rcases Nat.lt_or_ge j (m + 16) with h | h
        · rw [wsN_getD _ _ _ h]; exact wordN_lt _ (fun t _ => SP.out t) j
        · rw [List.getD_eq_getElem?_getD, List.getElem?_eq_none (by omega)]; exact (by decide : 0 < 4294967296)
      generalize wsN (fun t => P.getD t 0) (m + 16) = L at HOWN lw hstep small
      have cellL : ∀ j, j < m + 16 → ((castZ L).map (Value.int .u32))[j]? = some (.int .u32 ((L.getD j 0 : Nat) : Int)) := fun j hj => by
        rw [map_cell (Value.int .u32) (castZ L) j (by rw [castZ_length]; omega) 0, castZ_getD]
      have C2 : Keep _ := ⟨cellL (m + 14) (by omega)⟩
      have C7 : Keep _ := ⟨cellL (m + 9) (by omega)⟩
      have C15 : Keep _ := ⟨cellL (m + 1) (by omega)⟩
      have C16 : Keep _ := ⟨cellL m (by omega)⟩
      have hX : stepN L (m + 16) = (s1N (L.getD (m + 14) 0) + L.getD (m + 9) 0 + s0N (L.getD (m + 1) 0) + L.getD m 0) % 4294967296 := rfl
      have T1 : Keep _ := ⟨fun w => s1ref_any _ (small (m + 14)) w⟩
      have T0 : Keep _ := ⟨fun w => s0ref_any _ (small (m + 1)) w⟩
      clear cellL small
      generalize L.getD (m + 14) 0 = x2 at C2 hX T1
      generalize L.getD (m + 9) 0 = x7 at C7 hX
      generalize L.getD (m + 1) 0 = x15 at C15 hX T0
      generalize L.getD m 0 = x16 at C16 hX
      generalize s1N x2 = p at hX T1
      generalize s0N x15 = q at hX T0
      generalize stepN L (m + 16) = X at hX hstep
      have HSTEP : Keep _ := ⟨hstep⟩
      have HX : Keep _ := ⟨hX⟩
      clear hstep hX
      have Q1 : Keep (∀ j u, [Value.int .u32 ((X : Nat) : Int)][j]? = some u → ((wr.alloc (.cells #[.int .u32 ((X : Nat) : Int)] 44)).drew).cell? ((⟨wr.heap.size, 0, none⟩ : Addr).add j) = some u) := ⟨cell_one_new wr (.int .u32 ((X : Nat) : Int)) 44⟩
      have Q2 : Keep (∀ u ∈ [Value.int .u32 ((X : Nat) : Int)], u.oneCell' = true) := ⟨by simp [Value.oneCell']⟩
      have Q3 : Keep (m + 16 + 1 ≤ maxLen) := ⟨by unfold maxLen; omega⟩
      have Q4 : Keep ((m + 16 + 1) * 4 ≤ 140737488355328) := ⟨by omega⟩
      have Q5 : Keep (w.heap.size ≤ ((wr.alloc (.cells #[.int .u32 ((X : Nat) : Int)] 44)).drew).heap.size) := ⟨by have := HB.out.size; show w.heap.size ≤ (wr.alloc _).heap.size; simp; omega⟩
      go_upto_region 5 with fail
      refine wp_region_held_drew (S := fun w' => w'.ownsRow w.heap.size 44 1 (.slice (some ⟨g, 0, none⟩) (m + 16) cap) (m + 16) ((castZ L).map (Value.int .u32)) ∧ Below w.heap.size w w') (by kernel_rfl) ⟨HOWN.out.drew, HB.out.drew⟩ (fun hS0 => ?_)
      refine wpAnyH_take (i := 0) (v := .slice (some ⟨g, 0, none⟩) (m + 16) cap) rfl (by kernel_rfl) (by kernel_rfl) (by kernel_rfl) (fun _ _ _ h => h) (Or.inl ⟨by rfl, fun _ _ => rfl⟩) (by assumption) ?_
      simp only [Act.put, List.getElem_toArray, List.getElem_cons_zero, List.setIfInBounds_toArray, List.set_cons_zero, List.set_cons_succ]
      refine wpAnyH_take (i := 1) (v := .slice (some ⟨g, 0, none⟩) (m + 16) cap) rfl (by kernel_rfl) (by kernel_rfl) (by kernel_rfl) (fun _ _ _ h => h) (Or.inl ⟨by rfl, fun _ _ => rfl⟩) (by assumption) ?_
      simp only [Act.put, List.getElem_toArray, List.getElem_cons_zero, List.getElem_cons_succ, List.setIfInBounds_toArray, List.set_cons_zero, List.set_cons_succ]
      refine wpAnyH_take (i := 2) (v := .int .i64 ((m + 16 : Nat) : Int)) rfl (by kernel_rfl) (by kernel_rfl) (by kernel_rfl) (fun _ _ _ h => h) (Or.inl ⟨by rfl, fun _ _ => rfl⟩) (by assumption) ?_
      simp only [Act.put, List.getElem_toArray, List.getElem_cons_zero, List.getElem_cons_succ, List.setIfInBounds_toArray, List.set_cons_zero, List.set_cons_succ]
      refine wpAnyH_take (i := 3) (v := .int .i64 ((m + 14 : Nat) : Int)) rfl (by kernel_rfl) (by kernel_rfl) (by kernel_rfl) (fun _ _ _ h => h) (Or.inl ⟨by rfl, fun w' hw' => by go_simp; exact i64_small _ _ (by omega) (by omega) (by omega)⟩) (by assumption) ?_
      simp only [Act.put, List.getElem_toArray, List.getElem_cons_zero, List.getElem_cons_succ, List.setIfInBounds_toArray, List.set_cons_zero, List.set_cons_succ]
      refine wpAnyH_take (i := 4) (v := .pointer (some ⟨g, m + 14, none⟩)) rfl (by kernel_rfl) (by kernel_rfl) (by kernel_rfl) (fun _ _ _ h => h) (Or.inl ⟨by rfl, fun w' hw' => by go_simp; first | done | (rw [if_pos (by omega), show ((m : Int) + 14).toNat = m + 14 by omega]) | (intro hc; omega)⟩) (by assumption) ?_
      simp only [Act.put, List.getElem_toArray, List.getElem_cons_zero, List.getElem_cons_succ, List.setIfInBounds_toArray, List.set_cons_zero, List.set_cons_succ]
      refine wpAnyH_take (i := 5) (v := .int .u32 (x2 : Nat)) rfl (by kernel_rfl) (by kernel_rfl) (by kernel_rfl) (fun _ _ _ h => h) (Or.inl ⟨by rfl, fun w' hw' => by have cc := hw'.1.cells (g := g) rfl (m + 14) _ C2.out; rw [Addr.add_mid, Nat.zero_add] at cc; go_simp; done⟩) (by assumption) ?_
      simp only [Act.put, List.getElem_toArray, List.getElem_cons_zero, List.getElem_cons_succ, List.setIfInBounds_toArray, List.set_cons_zero, List.set_cons_succ]
      refine wpAnyH_take (i := 7) (v := .slice (some ⟨g, 0, none⟩) (m + 16) cap) rfl (by kernel_rfl) (by kernel_rfl) (by kernel_rfl) (fun _ _ _ h => h) (Or.inl ⟨by rfl, fun _ _ => rfl⟩) (by assumption) ?_
      simp only [Act.put, List.getElem_toArray, List.getElem_cons_zero, List.getElem_cons_succ, List.setIfInBounds_toArray, List.set_cons_zero, List.set_cons_succ]
      refine wpAnyH_take (i := 8) (v := .int .i64 ((m + 16 : Nat) : Int)) rfl (by kernel_rfl) (by kernel_rfl) (by kernel_rfl) (fun _ _ _ h => h) (Or.inl ⟨by rfl, fun _ _ => rfl⟩) (by assumption) ?_
      simp only [Act.put, List.getElem_toArray, List.getElem_cons_zero, List.getElem_cons_succ, List.setIfInBounds_toArray, List.set_cons_zero, List.set_cons_succ]
      refine wpAnyH_take (i := 9) (v := .int .i64 ((m + 9 : Nat) : Int)) rfl (by kernel_rfl) (by kernel_rfl) (by kernel_rfl) (fun _ _ _ h => h) (Or.inl ⟨by rfl, fun w' hw' => by go_simp; exact i64_small _ _ (by omega) (by omega) (by omega)⟩) (by assumption) ?_
      simp only [Act.put, List.getElem_toArray, List.getElem_cons_zero, List.getElem_cons_succ, List.setIfInBounds_toArray, List.set_cons_zero, List.set_cons_succ]
      refine wpAnyH_take (i := 10) (v := .pointer (some ⟨g, m + 9, none⟩)) rfl (by kernel_rfl) (by kernel_rfl) (by kernel_rfl) (fun _ _ _ h => h) (Or.inl ⟨by rfl, fun w' hw' => by go_simp; first | done | (rw [if_pos (by omega), show ((m : Int) + 9).toNat = m + 9 by omega]) | (intro hc; omega)⟩) (by assumption) ?_
      simp only [Act.put, List.getElem_toArray, List.getElem_cons_zero, List.getElem_cons_succ, List.setIfInBounds_toArray, List.set_cons_zero, List.set_cons_succ]
      refine wpAnyH_take (i := 11) (v := .int .u32 (x7 : Nat)) rfl (by kernel_rfl) (by kernel_rfl) (by kernel_rfl) (fun _ _ _ h => h) (Or.inl ⟨by rfl, fun w' hw' => by have cc := hw'.1.cells (g := g) rfl (m + 9) _ C7.out; rw [Addr.add_mid, Nat.zero_add] at cc; go_simp; done⟩) (by assumption) ?_
      simp only [Act.put, List.getElem_toArray, List.getElem_cons_zero, List.getElem_cons_succ, List.setIfInBounds_toArray, List.set_cons_zero, List.set_cons_succ]
      refine wpAnyH_take (i := 13) (v := .slice (some ⟨g, 0, none⟩) (m + 16) cap) rfl (by kernel_rfl) (by kernel_rfl) (by kernel_rfl) (fun _ _ _ h => h) (Or.inl ⟨by rfl, fun _ _ => rfl⟩) (by assumption) ?_
      simp only [Act.put, List.getElem_toArray, List.getElem_cons_zero, List.getElem_cons_succ, List.setIfInBounds_toArray, List.set_cons_zero, List.set_cons_succ]
      refine wpAnyH_take (i := 14) (v := .int .i64 ((m + 16 : Nat) : Int)) rfl (by kernel_rfl) (by kernel_rfl) (by kernel_rfl) (fun _ _ _ h => h) (Or.inl ⟨by rfl, fun _ _ => rfl⟩) (by assumption) ?_
      simp only [Act.put, List.getElem_toArray, List.getElem_cons_zero, List.getElem_cons_succ, List.setIfInBounds_toArray, List.set_cons_zero, List.set_cons_succ]
      refine wpAnyH_take (i := 15) (v := .int .i64 ((m + 1 : Nat) : Int)) rfl (by kernel_rfl) (by kernel_rfl) (by kernel_rfl) (fun _ _ _ h => h) (Or.inl ⟨by rfl, fun w' hw' => by go_simp; exact i64_small _ _ (by omega) (by omega) (by omega)⟩) (by assumption) ?_
      simp only [Act.put, List.getElem_toArray, List.getElem_cons_zero, List.getElem_cons_succ, List.setIfInBounds_toArray, List.set_cons_zero, List.set_cons_succ]
      refine wpAnyH_take (i := 16) (v := .pointer (some ⟨g, m + 1, none⟩)) rfl (by kernel_rfl) (by kernel_rfl) (by kernel_rfl) (fun _ _ _ h => h) (Or.inl ⟨by rfl, fun w' hw' => by go_simp; first | done | (rw [if_pos (by omega), show ((m : Int) + 1).toNat = m + 1 by omega]) | (intro hc; omega)⟩) (by assumption) ?_
      simp only [Act.put, List.getElem_toArray, List.getElem_cons_zero, List.getElem_cons_succ, List.setIfInBounds_toArray, List.set_cons_zero, List.set_cons_succ]
      refine wpAnyH_take (i := 17) (v := .int .u32 (x15 : Nat)) rfl (by kernel_rfl) (by kernel_rfl) (by kernel_rfl) (fun _ _ _ h => h) (Or.inl ⟨by rfl, fun w' hw' => by have cc := hw'.1.cells (g := g) rfl (m + 1) _ C15.out; rw [Addr.add_mid, Nat.zero_add] at cc; go_simp; done⟩) (by assumption) ?_
      simp only [Act.put, List.getElem_toArray, List.getElem_cons_zero, List.getElem_cons_succ, List.setIfInBounds_toArray, List.set_cons_zero, List.set_cons_succ]
      refine wpAnyH_take (i := 20) (v := .slice (some ⟨g, 0, none⟩) (m + 16) cap) rfl (by kernel_rfl) (by kernel_rfl) (by kernel_rfl) (fun _ _ _ h => h) (Or.inl ⟨by rfl, fun _ _ => rfl⟩) (by assumption) ?_
      simp only [Act.put, List.getElem_toArray, List.getElem_cons_zero, List.getElem_cons_succ, List.setIfInBounds_toArray, List.set_cons_zero, List.set_cons_succ]
      refine wpAnyH_take (i := 21) (v := .int .i64 ((m + 16 : Nat) : Int)) rfl (by kernel_rfl) (by kernel_rfl) (by kernel_rfl) (fun _ _ _ h => h) (Or.inl ⟨by rfl, fun _ _ => rfl⟩) (by assumption) ?_
      simp only [Act.put, List.getElem_toArray, List.getElem_cons_zero, List.getElem_cons_succ, List.setIfInBounds_toArray, List.set_cons_zero, List.set_cons_succ]
      refine wpAnyH_take (i := 22) (v := .int .i64 ((m + 0 : Nat) : Int)) rfl (by kernel_rfl) (by kernel_rfl) (by kernel_rfl) (fun _ _ _ h => h) (Or.inl ⟨by rfl, fun w' hw' => by go_simp; exact i64_small _ _ (by omega) (by omega) (by omega)⟩) (by assumption) ?_
      simp only [Act.put, List.getElem_toArray, List.getElem_cons_zero, List.getElem_cons_succ, List.setIfInBounds_toArray, List.set_cons_zero, List.set_cons_succ]
      refine wpAnyH_take (i := 23) (v := .pointer (some ⟨g, m, none⟩)) rfl (by kernel_rfl) (by kernel_rfl) (by kernel_rfl) (fun _ _ _ h => h) (Or.inl ⟨by rfl, fun w' hw' => by go_simp; first | done | (rw [if_pos (by omega), show ((m : Int)).toNat = m by omega]) | (intro hc; omega)⟩) (by assumption) ?_
      simp only [Act.put, List.getElem_toArray, List.getElem_cons_zero, List.getElem_cons_succ, List.setIfInBounds_toArray, List.set_cons_zero, List.set_cons_succ]
      refine wpAnyH_take (i := 24) (v := .int .u32 (x16 : Nat)) rfl (by kernel_rfl) (by kernel_rfl) (by kernel_rfl) (fun _ _ _ h => h) (Or.inl ⟨by rfl, fun w' hw' => by have cc := hw'.1.cells (g := g) rfl (m) _ C16.out; rw [Addr.add_mid, Nat.zero_add] at cc; go_simp; done⟩) (by assumption) ?_
      simp only [Act.put, List.getElem_toArray, List.getElem_cons_zero, List.getElem_cons_succ, List.setIfInBounds_toArray, List.set_cons_zero, List.set_cons_succ]
      refine wpAnyH_ready (rs := [6]) (by kernel_rfl) (by simp) ?_
      refine AllReadyH.cons rfl (fun K' hK => ?_) AllReadyH.nil
      rw [if_pos (by rfl)]
      go_simp
      refine (T1.out _).mono ?_
      rintro e1 wx ⟨rfl, rfl⟩
      refine hK.out _ _ hS0 (fun hSx => ?_)
      clear hK K'
      refine wpAnyH_take (i := 12) (v := .int .u32 (((p + x7) % 4294967296 : Nat) : Int)) rfl (by kernel_rfl) (by kernel_rfl) (by kernel_rfl) (fun _ _ _ h => h) (Or.inl ⟨by rfl, fun w' hw' => by go_simp; rw [IntKind.wrap_u32']⟩) (by assumption) ?_
      simp only [Act.put, List.getElem_toArray, List.getElem_cons_zero, List.getElem_cons_succ, List.setIfInBounds_toArray, List.set_cons_zero, List.set_cons_succ]
      refine wpAnyH_ready (rs := [18]) (by kernel_rfl) (by simp) ?_
      refine AllReadyH.cons rfl (fun K' hK => ?_) AllReadyH.nil
      rw [if_pos (by rfl)]
      go_simp
      refine (T0.out _).mono ?_
      rintro e1 wx ⟨rfl, rfl⟩
      refine hK.out _ _ hS0 (fun hSx => ?_)
      clear hK K'
      refine wpAnyH_take (i := 19) (v := .int .u32 ((((p + x7) % 4294967296 + q) % 4294967296 : Nat) : Int)) rfl (by kernel_rfl) (by kernel_rfl) (by kernel_rfl) (fun _ _ _ h => h) (Or.inl ⟨by rfl, fun w' hw' => by go_simp; rw [IntKind.wrap_u32']; omega⟩) (by assumption) ?_
      simp only [Act.put, List.getElem_toArray, List.getElem_cons_zero, List.getElem_cons_succ, List.setIfInBounds_toArray, List.set_cons_zero, List.set_cons_succ]
      refine wpAnyH_take (i := 25) (v := .int .u32 (X : Nat)) rfl (by kernel_rfl) (by kernel_rfl) (by kernel_rfl) (fun _ _ _ h => h) (Or.inl ⟨by rfl, fun w' hw' => by have hx := HX.out; go_simp; rw [IntKind.wrap_u32']; omega⟩) (by assumption) ?_
      simp only [Act.put, List.getElem_toArray, List.getElem_cons_zero, List.getElem_cons_succ, List.setIfInBounds_toArray, List.set_cons_zero, List.set_cons_succ]
      refine wpAnyH_ready (rs := [26]) (by kernel_rfl) (by simp) ?_
      refine AllReadyH.cons rfl (fun K' hK => ?_) AllReadyH.nil
      rw [if_pos (by rfl)]
      go_simp
      refine hK.out _ _ ⟨hS0.1.alloc _, bthen hS0.2 (balloc _ _)⟩ (fun hSx => ?_)
      clear hK K'
      have hS1 := hSx
      refine wpAnyH_ready (rs := [27]) (by kernel_rfl) (by simp) ?_
      refine AllReadyH.cons rfl (fun K' hK => ?_) AllReadyH.nil
      rw [if_pos (by rfl)]
      refine wp_append_keep (.tmp 20) (.tmp 46) 55 rfl w.heap.size 44 i0 (.int .u32 0) 1 4 Try.underlying55 I0.out I1.out I2.out I3.out rfl (by decide) _ (m + 16) _ rfl hS1.1 ⟨wr.heap.size, 0, none⟩ 1 1 [.int .u32 ((X : Nat) : Int)] rfl rfl Q1.out Q2.out Q3.out Q4.out Q5.out ?_
      intro v2 w2 hown2 hgrow2 hkeep2
      refine hK.out _ _ ⟨hkeep2, hS1.2.grown hgrow2 Q5.out (fun g hg => (hS1.1.lt g hg).1)⟩ (fun hSx => ?_)
      clear hK K'
      have hS2 := hSx
      refine wpAnyH_take (i := 28) (v := v2) rfl (by kernel_rfl) (by kernel_rfl) (by kernel_rfl) (fun _ _ _ h => h) (Or.inl ⟨by rfl, fun _ _ => rfl⟩) (by assumption) ?_
      simp only [Act.put, List.getElem_toArray, List.getElem_cons_zero, List.getElem_cons_succ, List.setIfInBounds_toArray, List.set_cons_zero, List.set_cons_succ]
      refine wpAnyH_done (by kernel_rfl) ?_ _
      go_wp2_with fail
      go_roundw
      case rel => exact ⟨m + 16 + 1, by omega, by omega, by go_num, by rw [HSTEP.out]; simpa [castZ] using hown2, hS2.2⟩
      case measure => simp [intOf]; omega
    · obtain rfl : t = 64 := by omega
      obtain ⟨g, cap, rfl, hcap⟩ := own_at HOWN.out (by omega)
      obtain ⟨wo, hwo⟩ : ∃ wo, wo = wr := ⟨_, rfl⟩
      subst hwo
      have NH : Keep (((castZ H).map (Value.int .u32)).length = 8 * 1) := ⟨by rw [List.length_map, castZ_length, lh]⟩
      have OH : Keep _ := ⟨ones (castZ H) .u32⟩
      have empty2 : Keep ((wo.alloc (.cells #[] 44)).ownsRow wo.heap.size 44 1 (.slice (some ⟨wo.heap.size, 0, none⟩) 0 0) 0 []) := ⟨⟨rfl, .inr ⟨wo.heap.size, 0, #[], rfl, Nat.le_refl _, heap_alloc_new wo _, Nat.le_refl _, by unfold maxLen; omega, rfl, rfl⟩⟩⟩
      have r3 : Keep (0 + 8 ≤ maxLen) := ⟨by unfold maxLen; omega⟩
      have r5 : Keep (wo.heap.size ≤ (wo.alloc (.cells #[] 44)).heap.size) := ⟨by simp⟩
      obtain ⟨hb0, ho, rfl, _⟩ := HH.out.at_ 0 (by rw [castZ_length, lh]; omega)
      have HC : Keep (∀ j u, ((castZ H).map (Value.int .u32))[j]? = some u → (wo.alloc (.cells #[] 44)).cell? ((⟨hb0, ho, none⟩ : Addr).add j) = some u) := ⟨by
        intro j u hu
        have hj : j < (castZ H).length := by have := (List.getElem?_eq_some_iff.1 hu).1; simpa using this
        obtain ⟨b, off, hA, hc⟩ := ((HH.out.below HB.out).below (balloc wo (.cells #[] 44))).at_ j hj
        cases hA
        rw [map_cell (Value.int .u32) (castZ H) j hj 0] at hu
        rw [Addr.add_mid, hc, ← hu]⟩
      go_wp2_with (at_builtin; refine wpList_append_own _ rfl (.tmp 48) (.tmp 49) 55 rfl wo.heap.size 44 i0 (.int .u32 0) 1 4 Try.underlying55 I0.out I1.out I2.out I3.out rfl (by decide) _ 0 [] rfl empty2.out ⟨hb0, ho, none⟩ 8 ch ((castZ H).map (Value.int .u32)) rfl NH.out HC.out OH.out r3.out (by decide) r5.out ?_; intro v3 w3 hown3 hgrow3 _)
      have HB3 : Keep (Below wo.heap.size wo w3) := ⟨(balloc wo _).grown hgrow3 r5.out (fun g hg => (empty2.out.lt g hg).1)⟩
      rw [List.nil_append] at hown3
      have HO3 : Keep _ := ⟨hown3⟩
      have LW := wsN_length (fun t => P.getD t 0) 64
      obtain ⟨f, hf⟩ : ∃ f, f = wordN (fun t => P.getD t 0) := ⟨_, rfl⟩
      have HF : Keep _ := ⟨hf⟩
      have CW : Keep (∀ j, j < 64 → wo.cell? ⟨g, j, none⟩ = some (.int .u32 ((f j : Nat) : Int))) := ⟨fun j hj => by
        rw [HOWN.out.cellAt j (by omega), map_cell (Value.int .u32) (castZ _) j (by rw [castZ_length, LW]; exact hj) 0, castZ_getD, wsN_getD _ _ _ hj, HF.out]⟩
      obtain ⟨kb, ko, rfl, _⟩ := HK.out.at_ 0 (by rw [castZ_length, lk]; omega)
      have CK : Keep (∀ j, j < 64 → wo.cell? ⟨kb, ko + j, none⟩ = some (.int .u32 ((K.getD j 0 : Nat) : Int))) := ⟨fun j hj => by
        obtain ⟨b, off, hA, hc⟩ := (HK.out.below HB.out).at_ j (by rw [castZ_length, lk]; exact hj)
        cases hA
        rw [hc, castZ_getD]⟩
      have WS : Keep (∀ j, f j < 4294967296) := ⟨fun j => by rw [HF.out]; exact wordN_lt _ (fun t _ => SP.out t) j⟩
      clear hown3 hgrow3 LW
      clear hf
      go_loopw [9, 10] (fun v tv wr => ∃ t : Nat, t ≤ 64 ∧ tv = .int .i64 t ∧ wr.ownsRow wo.heap.size 44 1 v 8 ((castZ (roundsN K f H t)).map (Value.int .u32)) ∧ Below wo.heap.size wo wr) (fun _ tv _ => 64 - (intOf tv).toNat)
      case atStart => exact ⟨0, by omega, rfl, HO3.out, HB3.out⟩
      case round =>
        obtain ⟨t, ht, rfl, hown, hb⟩ := hrel
        by_cases hlt : t < 64
        · have gt : decide ((t : Int) < 64) = true := by simp; omega
          obtain ⟨gv, cv, rfl, hcv⟩ := own_at hown (by omega)
          have lS := roundsN_length K f H lh t
          have sS := roundsN_small K f H SH.out t
          have hstep : roundsN K f H (t + 1) = roundN (K.getD t 0) (f t) (roundsN K f H t) := rfl
          generalize roundsN K f H t = S at hown lS sS hstep
          obtain ⟨xa, xb, xc, xd, xe, xf, xg, xh, rfl⟩ := eightN lS
          have ba := sS 0
          have bb := sS 1
          have bc := sS 2
          have bd := sS 3
          have be := sS 4
          have bf := sS 5
          have bg := sS 6
          have bh := sS 7
          simp only [List.getD_cons_zero, List.getD_cons_succ] at ba bb bc bd be bf bg bh
          have v0 : wr.cell? ⟨gv, 0, none⟩ = some (.int .u32 (xa : Int)) := hown.cellAt 0 (by omega)
          have v1 : wr.cell? ⟨gv, 1, none⟩ = some (.int .u32 (xb : Int)) := hown.cellAt 1 (by omega)
          have v2 : wr.cell? ⟨gv, 2, none⟩ = some (.int .u32 (xc : Int)) := hown.cellAt 2 (by omega)
          have v3 : wr.cell? ⟨gv, 3, none⟩ = some (.int .u32 (xd : Int)) := hown.cellAt 3 (by omega)
          have v4 : wr.cell? ⟨gv, 4, none⟩ = some (.int .u32 (xe : Int)) := hown.cellAt 4 (by omega)
          have v5 : wr.cell? ⟨gv, 5, none⟩ = some (.int .u32 (xf : Int)) := hown.cellAt 5 (by omega)
          have v6 : wr.cell? ⟨gv, 6, none⟩ = some (.int .u32 (xg : Int)) := hown.cellAt 6 (by omega)
          have v7 : wr.cell? ⟨gv, 7, none⟩ = some (.int .u32 (xh : Int)) := hown.cellAt 7 (by omega)
          have z3 := hown.frozenAt 3
          have z7 := hown.frozenAt 7
          have ck : wr.cell? ⟨kb, ko + t, none⟩ = some (.int .u32 ((K.getD t 0 : Nat) : Int)) := (hb.cell (block_lt_of_cell (CK.out t hlt))).trans (CK.out t hlt)
          have cw : wr.cell? ⟨g, t, none⟩ = some (.int .u32 ((f t : Nat) : Int)) := (hb.cell (block_lt_of_cell (CW.out t hlt))).trans (CW.out t hlt)
          have bw := WS.out t
          have HST : Keep _ := ⟨hstep⟩
          clear hstep sS lS
          generalize K.getD t 0 = k at ck HST
          generalize f t = x at cw HST bw
          have HOV : Keep _ := ⟨hown⟩
          have HBV : Keep _ := ⟨hb⟩
          clear hown hb
          have TS1 : Keep _ := ⟨fun w => (bS1ref_any xe be w).mono fun _ _ h => And.intro h.1 h.2.symm⟩
          have TS0 : Keep _ := ⟨fun w => (bS0ref_any xa ba w).mono fun _ _ h => And.intro h.1 h.2.symm⟩
          have hnext := HST.out
          rw [roundN_row] at hnext
          have e1 := sumbits xe xf xg xh k x be bf bg
          have e2 := twowrap xa xb xc (oneN xe xf xg xh k x) ba bb bc
          have e3 := addbits xd (oneN xe xf xg xh k x)
          clear HST
          generalize (oneN xe xf xg xh k x + twoN xa xb xc) % 4294967296 = ya at hnext e2
          generalize (xd + oneN xe xf xg xh k x) % 4294967296 = yd at hnext e3
          generalize oneN xe xf xg xh k x = o1 at e1 e2 e3
          have HN : Keep _ := ⟨hnext⟩
          have E1 : Keep _ := ⟨e1⟩
          have E2 : Keep _ := ⟨e2⟩
          have E3 : Keep _ := ⟨e3⟩
          clear e1 e2 e3
          have hgv : wo.heap.size ≤ gv := (HOV.out.lt gv rfl).1
          clear hnext
          go_upto_region 10 with fail
          go_quiet ((go_at_call 44; refine Calls.quiet_of_same (TS1.out _)))
          rw [E1.out]
          go_wp2_with fail
          rw [E3.out]
          have hown1 := (World.ownsRow.stored (show (wr.drewN nq).ownsRow wo.heap.size 44 1 _ 8 _ from HOV.out) 3 (.int .u32 (yd : Int))).1
          have hbel1 : Below wo.heap.size wo ((wr.drewN nq).setCell ⟨gv, 3, none⟩ (.int .u32 (yd : Int))) := Below.setCell (show Below wo.heap.size wo (wr.drewN nq) from ⟨HBV.out.os, HBV.out.tape, HBV.out.output, HBV.out.size, HBV.out.block⟩) hgv _
          obtain ⟨w4, hw4⟩ : ∃ w4, w4 = (wr.drewN nq).setCell ⟨gv, 3, none⟩ (.int .u32 (yd : Int)) := ⟨_, rfl⟩
          rw [← hw4] at hown1 hbel1 ⊢
          clear hw4
          clear v0 v1 v2 v3 v4 v5 v6 v7 z3 z7
          have v0 : w4.cell? ⟨gv, 0, none⟩ = some (.int .u32 (xa : Int)) := hown1.cellAt 0 (by omega)
          have v1 : w4.cell? ⟨gv, 1, none⟩ = some (.int .u32 (xb : Int)) := hown1.cellAt 1 (by omega)
          have v2 : w4.cell? ⟨gv, 2, none⟩ = some (.int .u32 (xc : Int)) := hown1.cellAt 2 (by omega)
          have v7 : w4.cell? ⟨gv, 7, none⟩ = some (.int .u32 (xh : Int)) := hown1.cellAt 7 (by omega)
          have z7 := hown1.frozenAt 7
          refine wp_region_still_tail 31 (by kernel_rfl) (Eq.trans (b := Region.lexTailB .any ops12 31) (by kernel_rfl) tail12) ?_
          simp only [List.take_succ_cons, List.take_zero, List.drop_succ_cons, List.drop_zero]
          repeat still_step
          still_call (TS0.out _)
          repeat still_step
          refine wpStill_nil ?_
          rw [E2.out]
          change wpList _ _ _ _ _ w4.drew
          have hown5 := hown1.drew
          have hbel5 := hbel1.drew
          clear z7 v0 v1 v2 v7
          obtain ⟨w5, hw5⟩ : ∃ w5, w5 = w4.drew := ⟨_, rfl⟩
          rw [← hw5] at hown5 hbel5 ⊢
          clear hw5
          have z7 := hown5.frozenAt 7
          have v7 : w5.cell? ⟨gv, 7, none⟩ = some (.int .u32 (xh : Int)) := hown5.cellAt 7 (by omega)
          go_wp2_with fail
          have hown6 := (World.ownsRow.stored hown5 7 (.int .u32 (ya : Int))).1
          have hbel6 : Below wo.heap.size wo (w5.setCell ⟨gv, 7, none⟩ (.int .u32 (ya : Int))) := Below.setCell hbel5 hgv _
          obtain ⟨w6, hw6⟩ : ∃ w6, w6 = w5.setCell ⟨gv, 7, none⟩ (.int .u32 (ya : Int)) := ⟨_, rfl⟩
          rw [← hw6] at hown6 hbel6 ⊢
          clear hw6
          clear z7 v7 hown5 hbel5 hown1 hbel1
          have v0 : w6.cell? ⟨gv, 0, none⟩ = some (.int .u32 (xa : Int)) := hown6.cellAt 0 (by omega)
          have v1 : w6.cell? ⟨gv, 1, none⟩ = some (.int .u32 (xb : Int)) := hown6.cellAt 1 (by omega)
          have v2 : w6.cell? ⟨gv, 2, none⟩ = some (.int .u32 (xc : Int)) := hown6.cellAt 2 (by omega)
          have v3 : w6.cell? ⟨gv, 3, none⟩ = some (.int .u32 (yd : Int)) := hown6.cellAt 3 (by omega)
          have v4 : w6.cell? ⟨gv, 4, none⟩ = some (.int .u32 (xe : Int)) := hown6.cellAt 4 (by omega)
          have v5 : w6.cell? ⟨gv, 5, none⟩ = some (.int .u32 (xf : Int)) := hown6.cellAt 5 (by omega)
          have v6 : w6.cell? ⟨gv, 6, none⟩ = some (.int .u32 (xg : Int)) := hown6.cellAt 6 (by omega)
          have v7 : w6.cell? ⟨gv, 7, none⟩ = some (.int .u32 (ya : Int)) := hown6.cellAt 7 (by omega)
          refine wp_region_still_tail 24 (by kernel_rfl) (Eq.trans (b := Region.lexTailB .any ops13 24) (by kernel_rfl) tail13) ?_
          simp only [List.take_succ_cons, List.take_zero, List.drop_succ_cons, List.drop_zero]
          repeat still_step
          refine wpStill_nil ?_
          change wpList _ _ _ _ _ w6.drew
          have hbel7 := hbel6.drew
          have hs7 := hbel7.size
          clear v0 v1 v2 v3 v4 v5 v6 v7 hown6 hbel6
          obtain ⟨w7, hw7⟩ : ∃ w7, w7 = w6.drew := ⟨_, rfl⟩
          rw [← hw7] at hbel7 hs7 ⊢
          clear hw7
          go_wp2_with fail
          go_roundw
          case rel => exact ⟨t + 1, by omega, by go_num, by rw [HN.out]; exact World.ownsRow_lit w7 #[.int .u32 (ya : Int), .int .u32 (xa : Int), .int .u32 (xb : Int), .int .u32 (xc : Int), .int .u32 (yd : Int), .int .u32 (xe : Int), .int .u32 (xf : Int), .int .u32 (xg : Int)] 8 hs7 (by unfold maxLen; omega) rfl, hbel7.alloc hs7 _⟩
          case measure => simp [intOf]; omega
        · obtain rfl : t = 64 := by omega
          have lS := roundsN_length K f H lh 64
          have hres : blockN K f H = sumN (roundsN K f H 64) H := rfl
          generalize roundsN K f H 64 = S at hown lS hres
          obtain ⟨gv, cv, rfl, hcv⟩ := own_at hown (by omega)
          obtain ⟨wm, hwm⟩ : ∃ wm, wm = wr := ⟨_, rfl⟩
          subst hwm
          have HV : Keep _ := ⟨hown⟩
          have HBV : Keep _ := ⟨hb⟩
          have hgv : wo.heap.size ≤ gv := (hown.lt gv rfl).1
          clear hown hb
          have lS8 : S.length = 8 := lS
          have hsum := sumR_eq S H lS lh
          rw [← hsum] at hres
          have HRES : Keep _ := ⟨hres⟩
          have lR := sumR_length S H
          clear hres hsum
          rw [show ((64 : Nat) : Int) = 64 from rfl]
          go_wp2_with fail
          go_loopw [12] (fun iv wr => ∃ i : Nat, i ≤ 8 ∧ iv = .int .i64 i ∧ wr.ownsRow wo.heap.size 44 1 (.slice (some ⟨gv, 0, none⟩) 8 cv) 8 ((castZ (sumR S H i)).map (Value.int .u32)) ∧ Below wo.heap.size wo wr) (fun iv _ => 8 - (intOf iv).toNat)
          case atStart => exact ⟨0, by omega, rfl, HV.out, HBV.out⟩
          case round =>
            obtain ⟨i, hi, rfl, hown, hb⟩ := hrel
            by_cases hlt : i < 8
            · have gi : decide ((i : Int) < 8) = true := by simp; omega
              have hstep : sumR S H (i + 1) = (sumR S H i).set i (((sumR S H i).getD i 0 + H.getD i 0) % 4294967296) := rfl
              have lL := lR i
              have cv_ := hown.cellAt i (by omega)
              obtain ⟨L, hL⟩ : ∃ L, L = sumR S H i := ⟨_, rfl⟩
              rw [← hL] at hown hstep lL cv_
              clear hL
              rw [map_cell (Value.int .u32) (castZ L) i (by rw [castZ_length]; omega) 0, castZ_getD] at cv_
              obtain ⟨b, off, hA, ch_⟩ := ((HH.out.below HB.out).below hb).at_ i (by rw [castZ_length, lh]; omega)
              cases hA
              rw [castZ_getD] at ch_
              have zf := hown.frozenAt i
              have e1 := addwrap (L.getD i 0) (H.getD i 0)
              obtain ⟨s, hs⟩ : ∃ s, s = (L.getD i 0 + H.getD i 0) % 4294967296 := ⟨_, rfl⟩
              rw [← hs] at e1 hstep
              clear hs
              obtain ⟨p, hp⟩ : ∃ p, p = L.getD i 0 := ⟨_, rfl⟩
              rw [← hp] at e1 cv_
              clear hp
              obtain ⟨q, hq⟩ : ∃ q, q = H.getD i 0 := ⟨_, rfl⟩
              rw [← hq] at e1 ch_
              clear hq
              have HST : Keep _ := ⟨hstep⟩
              have E1 : Keep _ := ⟨e1⟩
              have HOV : Keep _ := ⟨hown⟩
              have HBV2 : Keep _ := ⟨hb⟩
              clear hstep e1 hown hb
              have b1 : (i : Int) < 8 := by omega
              have b2 : (0 : Int) ≤ i := by omega
              go_upto_region 17 with fail
              refine wp_region_still_tail 11 (by kernel_rfl) (Eq.trans (b := Region.lexTailB .any ops17 11) (by kernel_rfl) tail17) ?_
              simp only [List.take_succ_cons, List.take_zero, List.drop_succ_cons, List.drop_zero]
              repeat still_step
              refine wpStill_nil ?_
              rw [E1.out]
              change wpList _ _ _ _ _ wr.drew
              obtain ⟨w5, hw5⟩ : ∃ w5, w5 = wr.drew := ⟨_, rfl⟩
              have hown5 := HOV.out.drew
              have hbel5 := HBV2.out.drew
              rw [← hw5] at hown5 hbel5 ⊢
              clear hw5 zf cv_ ch_
              have zf := hown5.frozenAt i
              have cs := hown5.cellAt i (by omega)
              rw [map_cell (Value.int .u32) (castZ L) i (by rw [castZ_length]; omega) 0] at cs
              go_wp2_with fail
              go_roundw
              case rel => exact ⟨i + 1, by omega, by go_num, by rw [HST.out, ← castZ_set, List.map_set]; exact (World.ownsRow.stored hown5 i _).1, Below.setCell hbel5 hgv _⟩
              case measure => simp [intOf]; omega
            · obtain rfl : i = 8 := by omega
              have HOV : Keep _ := ⟨hown⟩
              have HBV2 : Keep _ := ⟨hb⟩
              clear hown hb
              go_wp2_with fail
              go_ret
              exact ⟨gv, cv, rfl, by rw [← HF.out, HRES.out]; exact HOV.out.mono HB.out.size, HB.out.trans (HBV2.out.mono HB.out.size)⟩
end Go.Proofs.Ytmaoaljohjkjeaa
