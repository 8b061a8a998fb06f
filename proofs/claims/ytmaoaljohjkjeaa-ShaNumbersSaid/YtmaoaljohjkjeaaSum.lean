/- The text of a hash can be read again: the law's digit, a text's bytes, two texts alike. Conditions: 32 numbers from 0 to 255. And: an array of 32 bytes that is handed in. -/
import Derived.Test.YtmaoaljohjkjeaaEq
import Derived.OpenShut
namespace Go.Proofs.Ytmaoaljohjkjeaa
open Go.ChangeShapes Go.WideShapes Go.ChangeAt Go.RowKit

theorem read_any (n : Int) (h0 : 0 ≤ n) (h1 : n < 16) (w : World) : Calls Try.prog 25 #[.int .u8 (digitZ n)] w fun e w' => e = .returned (.int .i64 n) ∧ w = w' := by
  by_cases h : n < 10
  · have hd : digitZ n = 48 + n := by rw [digitZ, if_pos h]
    rw [hd]
    clear hd
    generalize hm : 48 + n = m
    have hn : Keep (m - 48 = n) := ⟨by omega⟩
    have c1 : decide (m ≥ 48) = true := by simp; omega
    have c2 : decide (m ≤ 57) = true := by simp; omega
    have m1 : 48 ≤ m := by omega
    have m2 : m ≤ 57 := by omega
    clear hm h h0 h1
    go_enter Try.func25, Try.ntmps25
    go_wp2
    go_ret
    exact ⟨by rw [← hn.out]; rfl, rfl⟩
  · have hd : digitZ n = 87 + n := by rw [digitZ, if_neg h]
    rw [hd]
    clear hd
    generalize hm : 87 + n = m
    have hn : Keep (m - 97 + 10 = n) := ⟨by omega⟩
    have m1 : 97 ≤ m := by omega
    have m2 : m ≤ 102 := by omega
    clear hm h h0 h1
    go_enter Try.func25, Try.ntmps25
    go_wp2
    go_ret
    exact ⟨by rw [← hn.out]; rfl, rfl⟩

theorem hexTo_ge (h : List Int) (j : Nat) : ∀ k, j < k → k ≤ 64 → (hexTo h k).getD j 0 = digitZ (halfZ8 h j)
  | 0, hj, _ => absurd hj (by omega)
  | k + 1, hj, hk => by
    rw [hexTo]
    rcases Nat.lt_or_ge j k with h1 | h1
    · rw [getD_set_other _ _ _ _ (by omega)]; exact hexTo_ge h j k h1 (by omega)
    · rw [show j = k by omega, getD_set_same _ _ _ (by rw [hexTo_length]; omega)]
theorem digitZ_range (n : Int) (h0 : 0 ≤ n) (h1 : n < 16) : 48 ≤ digitZ n ∧ digitZ n < 103 := by unfold digitZ; split <;> omega
theorem digitZ_inj (n m : Int) (h0 : 0 ≤ n) (h1 : n < 16) (h2 : 0 ≤ m) (h3 : m < 16) (h : digitZ n = digitZ m) : n = m := by
  unfold digitZ at h; split at h <;> split at h <;> omega

/-- 32 bytes -/
structure IsSum (h : List Int) : Prop where
  len : h.length = 32
  range : ∀ i, i < 32 → 0 ≤ h.getD i 0 ∧ h.getD i 0 < 256
theorem IsSum.half {h : List Int} (hh : IsSum h) (j : Nat) (hj : j < 64) : 0 ≤ halfZ8 h j ∧ halfZ8 h j < 16 := by
  have := hh.range (j / 2) (by omega)
  unfold halfZ8
  split <;> omega
theorem strZ_size (ns : List Int) : (strZ ns).size = ns.length := by
  have h := congrArg List.length (strZ_toList ns)
  rw [ByteArray.toList_eq] at h
  simpa using h
theorem strZ_data (ns : List Int) : (strZ ns).data.toList = ns.map (fun n => UInt8.ofNat n.toNat) := by
  rw [← ByteArray.toList_eq]; exact strZ_toList ns
theorem strZ_at (ns : List Int) (j : Nat) (hj : j < (strZ ns).size) (hr : 0 ≤ ns.getD j 0 ∧ ns.getD j 0 < 256) : (((strZ ns)[j]'hj).toNat : Int) = ns.getD j 0 := by
  have hl : j < ns.length := by rw [← strZ_size]; exact hj
  have h : (strZ ns)[j]'hj = (strZ ns).data.toList[j]'(by simpa using hj) := by simp [ByteArray.getElem_eq_getElem_data]
  have h2 : (strZ ns).data.toList[j]? = some (UInt8.ofNat (ns.getD j 0).toNat) := by
    rw [strZ_data]; simp [hl]
  rw [List.getElem?_eq_getElem (by simpa using hj)] at h2
  have h3 : ∀ z : Int, 0 ≤ z → z < 256 → ((UInt8.ofNat z.toNat).toNat : Int) = z := fun z h0 h1 => by simp; omega
  rw [h, Option.some.inj h2]
  exact h3 _ hr.1 hr.2
theorem hexS_size (h : List Int) : (hexS h).size = 64 := by rw [hexS, strZ_size, hexTo_length]
theorem hexS_index (h : List Int) (hh : IsSum h) (j : Nat) (hj : j < 64) (W : World) : (Instr.index 9 (.string (hexS h)) (.int .i64 (j : Int))).run Try.prog W = .ok (.int .u8 (digitZ (halfZ8 h j))) W := by
  have hr := hh.half j hj
  have hd := digitZ_range _ hr.1 hr.2
  have hs := hexS_size h
  rw [run_index_string W 9 (hexS h) .i64 j Try.underlying9, dif_pos ⟨by omega, by omega⟩]
  have := strZ_at (hexTo h 64) j (by rw [← hexS, hs]; exact hj) (by rw [hexTo_ge h j 64 hj (by omega)]; omega)
  rw [hexTo_ge h j 64 hj (by omega)] at this
  rw [← this]
  rfl
theorem hexS_inj (g h : List Int) (hg : IsSum g) (hh : IsSum h) (he : (hexS g).toList = (hexS h).toList) : g = h := by
  rw [hexS, hexS, strZ_toList, strZ_toList] at he
  have hd : ∀ j, j < 64 → halfZ8 g j = halfZ8 h j := fun j hj => by
    have rg := hg.half j hj
    have rh := hh.half j hj
    have dg := digitZ_range _ rg.1 rg.2
    have dh := digitZ_range _ rh.1 rh.2
    have e := congrArg (fun l => l[j]?) he
    have eg := hexTo_ge g j 64 hj (by omega)
    have eh := hexTo_ge h j 64 hj (by omega)
    have cg := map_cell (fun n : Int => Value.int .u8 n) (hexTo g 64) j (by rw [hexTo_length]; exact hj) 0
    simp only [List.getElem?_map] at e
    have pg : (hexTo g 64)[j]? = some (digitZ (halfZ8 g j)) := by
      rw [← eg, List.getD_eq_getElem?_getD, List.getElem?_eq_getElem (by rw [hexTo_length]; exact hj)]; rfl
    have ph : (hexTo h 64)[j]? = some (digitZ (halfZ8 h j)) := by
      rw [← eh, List.getD_eq_getElem?_getD, List.getElem?_eq_getElem (by rw [hexTo_length]; exact hj)]; rfl
    rw [pg, ph] at e
    simp only [Option.map_some, Option.some.injEq] at e
    have e2 := congrArg UInt8.toNat e
    simp at e2
    exact digitZ_inj _ _ rg.1 rg.2 rh.1 rh.2 (by omega)
  apply List.ext_getElem (by rw [hg.len, hh.len])
  intro i h1 h2
  have a := hd (2 * i) (by have := hg.len; omega)
  have b := hd (2 * i + 1) (by have := hg.len; omega)
  unfold halfZ8 at a b
  rw [if_neg (by omega), if_neg (by omega), show 2 * i / 2 = i by omega] at a
  rw [if_pos (by omega), if_pos (by omega), show (2 * i + 1) / 2 = i by omega] at b
  have eg : g.getD i 0 = g[i] := by simp [h1]
  have eh : h.getD i 0 = h[i] := by simp [h2]
  rw [eg, eh] at a b
  omega
theorem hexS_same (g h : List Int) (hg : IsSum g) (hh : IsSum h) : ((hexS g).toList == (hexS h).toList) = (g == h) := by
  by_cases e : g = h
  · subst e; simp
  · have : ¬ (hexS g).toList = (hexS h).toList := fun he => e (hexS_inj g h hg hh he)
    rw [beq_eq_false_iff_ne.mpr this, beq_eq_false_iff_ne.mpr e]

theorem cells32 : Try.prog.cellsOf 32 = 32 := by kernel_rfl
/-- an array of 32 bytes that is handed in -/
theorem open_sum {H : Type} {enc : TypeId × Value → H} {W : World} {base b0 : Nat} {spare : Nat → Bool} {held : Bool} {v : Value} {d : DataW H} {p : List MemPlace}
    (hok : Value.okWide Try.prog W .any b0 32 v) (h : DataW.Trod enc Try.prog W base spare held 32 v d p) : ∃ zs : List Int, v = .agg (zs.map (Value.int .u8)).toArray ∧ IsSum zs := by
  obtain ⟨cs, rfl, hsz, _⟩ : ∃ cs, v = .agg cs ∧ cs.size = Try.prog.cellsOf 32 ∧ Row.okWide Try.prog W .any b0 32 cs := by
    simpa [Value.okWide, Try.underlying32] using hok
  rw [cells32] at hsz
  obtain ⟨fuel, hf⟩ := h
  obtain ⟨xs, m, _, _, _, hl, hel⟩ := DataW.trod_array Try.underlying32 hf
  have key : ∀ i, i < 32 → ∃ z : Int, cs[i]? = some (.int .u8 z) ∧ 0 ≤ z ∧ z < 256 := fun i hi => by
    have hE := hel i hi
    rw [cells5, Nat.mul_one, List.getElem?_eq_getElem (by omega)] at hE
    obtain ⟨z, e1, _, e3⟩ := DataW.trod_int Try.underlying5 hE
    have bz := bounds_u8 e3
    refine ⟨z, ?_, bz.1, by omega⟩
    have h0 := congrArg (fun l => l[0]?) e1
    simpa [Value.cells] using h0
  refine ⟨cs.toList.map intOf, ?_, ?_, ?_⟩
  · congr 1
    apply Array.ext (by simp)
    intro i h1 h2
    obtain ⟨z, hz, _⟩ := key i (by omega)
    rw [Array.getElem?_eq_getElem h1] at hz
    simp [Option.some.inj hz, intOf]
  · simp [hsz]
  · intro i hi
    obtain ⟨z, hz, z0, z1⟩ := key i hi
    have : (cs.toList.map intOf).getD i 0 = z := by simp [hz, intOf]
    rw [this]; exact ⟨z0, z1⟩
end Go.Proofs.Ytmaoaljohjkjeaa
