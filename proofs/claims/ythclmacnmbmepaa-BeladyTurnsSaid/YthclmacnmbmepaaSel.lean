import Derived.Test.YthclmacnmbmepaaOpt
/- Sets of keys as bits: plain law, no program. -/
namespace Bel
def sel (ks : List Int) (b : Nat) : List Int := ks.filter fun k => b.testBit (ks.idxOf k)
theorem mem_sel {ks : List Int} {b : Nat} {k : Int} : k ∈ sel ks b ↔ k ∈ ks ∧ b.testBit (ks.idxOf k) = true := by simp [sel]
theorem sel_nodup {ks : List Int} {b : Nat} (h : ks.Nodup) : (sel ks b).Nodup := h.filter _
theorem sel_zero {ks : List Int} : sel ks 0 = [] := by simp [sel]
def W (s : Nat) (tr ks : List Int) (a b : Nat) : Nat := V s (tr.drop a) (sel ks b)

theorem testBit_mask {j k : Nat} (hj : j < 16) : (65535 - 2 ^ j).testBit k = (decide (k < 16) && !decide (j = k)) := by
  have h1 : 2 ^ j < 2 ^ 16 := Nat.pow_lt_pow_right (by omega) hj
  have h2 : 65535 - 2 ^ j = 2 ^ 16 - (2 ^ j + 1) := by omega
  rw [h2, Nat.testBit_two_pow_sub_succ h1, Nat.testBit_two_pow]

section
variable {s : Nat} {tr ks : List Int} {a b : Nat} {r : Int}
theorem drop_cons (ha : a < tr.length) : tr.drop a = tr[a] :: tr.drop (a + 1) := List.drop_eq_getElem_cons ha

theorem sel_or (hn : ks.Nodup) (hr : r ∈ ks) (hb : b.testBit (ks.idxOf r) = false) : (sel ks (b ||| 2 ^ ks.idxOf r)).Perm (sel ks b ++ [r]) := by
  refine (List.perm_ext_iff_of_nodup (sel_nodup hn) ?_).2 fun k => ?_
  · refine List.nodup_append.2 ⟨sel_nodup hn, by simp, fun x hx y hy e => ?_⟩
    rw [List.mem_singleton] at hy
    subst hy; subst e
    rw [(mem_sel.1 hx).2] at hb
    cases hb
  · rw [mem_sel, List.mem_append, List.mem_singleton, mem_sel, Nat.testBit_or, Nat.testBit_two_pow]
    constructor
    · rintro ⟨h1, h2⟩
      rw [Bool.or_eq_true] at h2
      rcases h2 with h2 | h2
      · exact Or.inl ⟨h1, h2⟩
      · have h3 : ks.idxOf r = ks.idxOf k := by simpa using h2
        refine Or.inr ?_
        have g1 := List.getElem_idxOf (List.idxOf_lt_length_of_mem h1)
        have g2 := List.getElem_idxOf (List.idxOf_lt_length_of_mem hr)
        rw [← g1, ← g2]
        simp only [h3]
    · rintro (⟨h1, h2⟩ | rfl)
      · exact ⟨h1, by rw [h2]; rfl⟩
      · exact ⟨hr, by simp⟩
theorem or_same (hb : b.testBit (ks.idxOf r) = true) : b ||| 2 ^ ks.idxOf r = b := by
  apply Nat.eq_of_testBit_eq
  intro i
  rw [Nat.testBit_or, Nat.testBit_two_pow]
  by_cases h : ks.idxOf r = i
  · subst h; rw [hb]; rfl
  · simp [h]
theorem sel_or_len (hn : ks.Nodup) (hr : r ∈ ks) (hb : b.testBit (ks.idxOf r) = false) : (sel ks (b ||| 2 ^ ks.idxOf r)).length = (sel ks b).length + 1 := by
  rw [(sel_or hn hr hb).length_eq]; simp

theorem W_end (ha : tr.length ≤ a) : W s tr ks a b = 0 := by unfold W; rw [List.drop_of_length_le ha]; rfl
theorem W_hit (ha : a < tr.length) (e : tr[a] = r) (hr : r ∈ ks) (hb : b.testBit (ks.idxOf r) = true) : W s tr ks a b = 1 + W s tr ks (a + 1) (b ||| 2 ^ ks.idxOf r) := by
  unfold W
  rw [or_same hb, drop_cons ha, e, V_hit (mem_sel.2 ⟨hr, hb⟩)]
theorem not_sel (hb : b.testBit (ks.idxOf r) = false) : r ∉ sel ks b := fun h => by rw [(mem_sel.1 h).2] at hb; cases hb
theorem W_room (hn : ks.Nodup) (ha : a < tr.length) (e : tr[a] = r) (hr : r ∈ ks) (hb : b.testBit (ks.idxOf r) = false) (hs : (sel ks b).length < s) : W s tr ks a b = W s tr ks (a + 1) (b ||| 2 ^ ks.idxOf r) := by
  unfold W
  rw [drop_cons ha, e, V_room (not_sel hb) hs, V_perm _ (sel_or hn hr hb)]

/-- The set behind a miss, key number j gone. -/
def outOf (b i j : Nat) : Nat := (b ||| 2 ^ i) &&& (65535 - 2 ^ j)
def loopW (s : Nat) (tr ks : List Int) (a b i j : Nat) : Nat := mx (((List.range j).filter fun j => b.testBit j).map fun j => W s tr ks (a + 1) (outOf b i j))
theorem loopW_zero (i : Nat) : loopW s tr ks a b i 0 = 0 := rfl
theorem loopW_yes {i j : Nat} (h : b.testBit j = true) : loopW s tr ks a b i (j + 1) = max (loopW s tr ks a b i j) (W s tr ks (a + 1) (outOf b i j)) := by
  unfold loopW
  rw [List.range_succ, List.filter_append, List.map_append, mx, List.foldl_append]
  simp [h, mx]
theorem loopW_no {i j : Nat} (h : b.testBit j = false) : loopW s tr ks a b i (j + 1) = loopW s tr ks a b i j := by
  unfold loopW
  rw [List.range_succ, List.filter_append, List.map_append, mx, List.foldl_append]
  simp [h, mx]

theorem sel_out (hn : ks.Nodup) (hl : ks.length ≤ 16) (hr : r ∈ ks) (hb : b.testBit (ks.idxOf r) = false) {j : Nat} (hj : j < ks.length) :
    (sel ks (outOf b (ks.idxOf r) j)).Perm (wo (sel ks b ++ [r]) ks[j]) := by
  refine (List.perm_ext_iff_of_nodup (sel_nodup hn) (((sel_or hn hr hb).nodup_iff.1 (sel_nodup hn)).filter _)).2 fun k => ?_
  have hm : k ∈ wo (sel ks b ++ [r]) ks[j] ↔ k ∈ sel ks (b ||| 2 ^ ks.idxOf r) ∧ k ≠ ks[j] := by
    unfold wo
    rw [List.mem_filter, (sel_or hn hr hb).mem_iff]
    simp
  refine Iff.trans ?_ hm.symm
  rw [mem_sel, mem_sel, outOf, Nat.testBit_and, testBit_mask (by omega)]
  constructor
  · rintro ⟨h1, h2⟩
    rw [Bool.and_eq_true, Bool.and_eq_true] at h2
    refine ⟨⟨h1, h2.1⟩, fun e => ?_⟩
    subst e
    have : ks.idxOf ks[j] = j := hn.idxOf_getElem j hj
    rw [this] at h2
    simp at h2
  · rintro ⟨⟨h1, h2⟩, h3⟩
    refine ⟨h1, ?_⟩
    rw [h2, Bool.true_and, Bool.and_eq_true]
    have h4 := List.idxOf_lt_length_of_mem h1
    refine ⟨by simp; omega, ?_⟩
    simp only [Bool.not_eq_true', decide_eq_false_iff_not]
    rintro rfl
    exact h3 (List.getElem_idxOf h4).symm
theorem sel_out_len (hn : ks.Nodup) (hl : ks.length ≤ 16) (hr : r ∈ ks) (hb : b.testBit (ks.idxOf r) = false) {j : Nat} (hj : j < ks.length) (hbj : b.testBit j = true) :
    (sel ks (outOf b (ks.idxOf r) j)).length = (sel ks b).length := by
  rw [(sel_out hn hl hr hb hj).length_eq]
  have hd : (sel ks b ++ [r]).Nodup := (sel_or hn hr hb).nodup_iff.1 (sel_nodup hn)
  have hmem : ks[j] ∈ sel ks b ++ [r] := by
    refine List.mem_append_left _ (mem_sel.2 ⟨List.getElem_mem hj, ?_⟩)
    rw [hn.idxOf_getElem j hj]; exact hbj
  have := wo_length hd hmem
  simp at this
  omega
theorem loopW_all (hn : ks.Nodup) (hl : ks.length ≤ 16) (ha : a < tr.length) (e : tr[a] = r) (hr : r ∈ ks) (hb : b.testBit (ks.idxOf r) = false) (hs : ¬ (sel ks b).length < s) :
    loopW s tr ks a b (ks.idxOf r) ks.length = W s tr ks a b := by
  have hw : ∀ j (hj : j < ks.length), W s tr ks (a + 1) (outOf b (ks.idxOf r) j) = V s (tr.drop (a + 1)) (wo (sel ks b ++ [r]) ks[j]) := fun j hj => V_perm _ (sel_out hn hl hr hb hj)
  have hV : W s tr ks a b = V s (r :: tr.drop (a + 1)) (sel ks b) := by unfold W; rw [drop_cons ha, e]
  rw [hV]
  refine Nat.le_antisymm ?_ ?_
  · refine mx_le fun x hx => ?_
    obtain ⟨j, hj, rfl⟩ := List.mem_map.1 hx
    obtain ⟨h1, h2⟩ := List.mem_filter.1 hj
    have h1 := List.mem_range.1 h1
    rw [hw j h1]
    exact le_V (not_sel hb) hs (mem_sel.2 ⟨List.getElem_mem h1, by rw [hn.idxOf_getElem j h1]; exact h2⟩)
  · refine V_le (not_sel hb) hs fun k hk => ?_
    obtain ⟨h1, h2⟩ := mem_sel.1 hk
    have h3 := List.idxOf_lt_length_of_mem h1
    have h4 := hw _ h3
    rw [List.getElem_idxOf h3] at h4
    rw [← h4]
    exact le_mx (List.mem_map.2 ⟨ks.idxOf k, List.mem_filter.2 ⟨List.mem_range.2 h3, h2⟩, rfl⟩)
theorem W_le (s : Nat) (tr ks : List Int) (a b : Nat) : W s tr ks a b ≤ tr.length := by
  have key : ∀ (t S : List Int), V s t S ≤ t.length := by
    intro t
    induction t with
    | nil => intro S; exact Nat.zero_le _
    | cons r t ih =>
      intro S
      by_cases h : r ∈ S
      · rw [V_hit h]; have := ih S; simp; omega
      · by_cases hs : S.length < s
        · rw [V_room h hs]; have := ih (S ++ [r]); simp; omega
        · exact V_le h hs fun k _ => by have := ih (wo (S ++ [r]) k); simp; omega
  have := key (tr.drop a) (sel ks b)
  rw [List.length_drop] at this
  unfold W; omega
theorem or_lt {d i : Nat} (hb : b < 2 ^ d) (hi : i < d) : b ||| 2 ^ i < 2 ^ d := Nat.or_lt_two_pow hb (Nat.pow_lt_pow_right (by omega) hi)
theorem outOf_lt {d i j : Nat} (hb : b < 2 ^ d) (hi : i < d) : outOf b i j < 2 ^ d := Nat.lt_of_le_of_lt Nat.and_le_left (or_lt hb hi)
end
end Bel
