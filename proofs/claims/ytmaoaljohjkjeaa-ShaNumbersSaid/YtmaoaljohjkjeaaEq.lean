/- Two hashes held against each other: the same only if their numbers are. Condition: 32 numbers each. -/
import Derived.Test.YtmaoaljohjkjeaaCopy
import Derived.ChangeKeysEq
namespace Go.Proofs.Ytmaoaljohjkjeaa
open Go.ChangeShapes Go.WideShapes Go.ChangeAt Go.RowKit

/-- two arrays of numbers of one kind: the same only if each number is -/
theorem items_eq (xs ys : List Int) (k : IntKind) (w : World) (hk : Try.prog.underlying 5 = some (.int k)) : ∀ (is : List Nat), (∀ i ∈ is, i < xs.length ∧ i < ys.length) →
    (Op.eqItems 9999 5 1 (xs.map (Value.int .u8)).toArray (ys.map (Value.int .u8)).toArray is).run Try.prog w = .ok (is.all fun i => xs.getD i 0 == ys.getD i 0) w
  | [], _ => by simp [Op.eqItems]
  | i :: is, h => by
    have hi := h i (by simp)
    have px : (part 5 (xs.map (Value.int .u8)).toArray (i * 1)).run Try.prog w = .ok (.int .u8 (xs.getD i 0)) w := by
      simp [part, isAgg, run_underlying hk, hi.1]
    have py : (part 5 (ys.map (Value.int .u8)).toArray (i * 1)).run Try.prog w = .ok (.int .u8 (ys.getD i 0)) w := by
      simp [part, isAgg, run_underlying hk, hi.2]
    have pe : (Op.equalIn 9999 5 (.int .u8 (xs.getD i 0)) (.int .u8 (ys.getD i 0))).run Try.prog w = .ok (xs.getD i 0 == ys.getD i 0) w := run_equalIn_int w 9998 5 .u8 k _ _ hk
    have ih := items_eq xs ys k w hk is (fun j hj => h j (by simp [hj]))
    simp only [Op.eqItems, Sem.run_bind, px, py, pe, Result.andThen_ok, List.all_cons]
    cases hb : (xs.getD i 0 == ys.getD i 0)
    · simp
    · simp only [Bool.not_true, Bool.false_eq_true, if_false, Bool.true_and]
      exact ih

theorem all_same : ∀ (xs ys : List Int), xs.length = ys.length → ((List.range xs.length).all fun i => xs.getD i 0 == ys.getD i 0) = (xs == ys)
  | [], [], _ => rfl
  | x :: xs, y :: ys, h => by
    have ih := all_same xs ys (by simpa using h)
    rw [List.length_cons, List.range_succ_eq_map, List.all_cons, List.all_map]
    simp only [List.getD_cons_zero, Function.comp_def, List.getD_cons_succ, ih]
    simp [List.cons_beq_cons]
  | [], _ :: _, h => by simp at h
  | _ :: _, [], h => by simp at h

theorem info5' : ∃ i, Try.prog.info? 5 = some i := by
  obtain ⟨i, hi, _⟩ := info_parts info5
  exact ⟨i, hi⟩
theorem cells5 : Try.prog.cellsOf 5 = 1 := by kernel_rfl

theorem eql_hash (xs ys : List Int) (w : World) (hx : xs.length = 32) (hy : ys.length = 32) :
    (binOp .eql 32 (.agg (xs.map (Value.int .u8)).toArray) (.agg (ys.map (Value.int .u8)).toArray)).run Try.prog w = .ok (.bool (xs == ys)) w := by
  obtain ⟨i, hi⟩ := info5'
  have h := run_equalIn_array (P := Try.prog) w 9999 (xs.map (Value.int .u8)).toArray (ys.map (Value.int .u8)).toArray Try.underlying32 hi
  rw [cells5, items_eq xs ys _ w Try.underlying5 (List.range 32) (fun j hj => by have := List.mem_range.1 hj; omega)] at h
  have ha := all_same xs ys (hx.trans hy.symm)
  rw [hx] at ha
  rw [ha] at h
  rw [run_eql_struct, h]
  rfl
theorem neq_hash (xs ys : List Int) (w : World) (hx : xs.length = 32) (hy : ys.length = 32) :
    (binOp .neq 32 (.agg (xs.map (Value.int .u8)).toArray) (.agg (ys.map (Value.int .u8)).toArray)).run Try.prog w = .ok (.bool (!(xs == ys))) w := by
  obtain ⟨i, hi⟩ := info5'
  have h := run_equalIn_array (P := Try.prog) w 9999 (xs.map (Value.int .u8)).toArray (ys.map (Value.int .u8)).toArray Try.underlying32 hi
  rw [cells5, items_eq xs ys _ w Try.underlying5 (List.range 32) (fun j hj => by have := List.mem_range.1 hj; omega)] at h
  have ha := all_same xs ys (hx.trans hy.symm)
  rw [hx] at ha
  rw [ha] at h
  rw [run_neq_struct, h]
  rfl
end Go.Proofs.Ytmaoaljohjkjeaa
