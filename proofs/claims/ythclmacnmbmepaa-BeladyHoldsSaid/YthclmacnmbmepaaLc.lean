import Derived.Test.YthclmacnmbmepaaLb
namespace Go.Proofs.Ythclmacnmbmepaa
open Go.RowKit Bel

theorem chk_perm (s : Nat) : ∀ (t : List Int) (xs : List Turn) (S S' : List Int), S.Perm S' → chk s t xs S = chk s t xs S' := by
  intro t
  induction t with
  | nil => intro xs S S' _; cases xs <;> rfl
  | cons r t ih =>
    intro xs S S' h
    cases xs with
    | nil => rfl
    | cons x xs =>
      obtain ⟨xh, xl, xo⟩ := x
      rw [chk_cons, chk_cons]
      have hr : decide (r ∈ S) = decide (r ∈ S') := decide_eq_decide.2 h.mem_iff
      have ho : decide (xo ∈ S) = decide (xo ∈ S') := decide_eq_decide.2 h.mem_iff
      have h1 : (if xl = true then wo S xo else S).Perm (if xl = true then wo S' xo else S') := by
        split
        · exact wo_perm h
        · exact h
      have h2 := (wo_perm (k := r) h1).append_right [r]
      rw [hr, ho, h2.length_eq, ih _ _ _ h2]
theorem turnsL_out {P : Int → Prop} {s : Nat} (h0 : P 0) (hs : 1 ≤ s) : ∀ (t S : List Int), (∀ y ∈ t, P y) → (∀ y ∈ S, P y) → ∀ x ∈ turnsL s t S, P x.out := by
  intro t
  induction t with
  | nil => intro S _ _ x hx; cases hx
  | cons r t ih =>
    intro S ht hS x hx
    have hr := ht r (List.mem_cons_self ..)
    have ht' : ∀ y ∈ t, P y := fun y hy => ht y (List.mem_cons_of_mem _ hy)
    unfold turnsL at hx
    split at hx
    · rcases List.mem_cons.1 hx with rfl | hx
      · exact h0
      · exact ih S ht' hS x hx
    · split at hx
      · rename_i hf
        have hne : S ≠ [] := fun e => by subst e; simp at hf; omega
        rcases List.mem_cons.1 hx with rfl | hx
        · exact hS _ (bst_mem hne)
        · refine ih _ ht' (fun y hy => ?_) x hx
          rcases List.mem_append.1 hy with hy | hy
          · exact hS y (mem_wo.1 hy).1
          · simp at hy; subst hy; exact hr
      · rcases List.mem_cons.1 hx with rfl | hx
        · exact h0
        · refine ih _ ht' (fun y hy => ?_) x hx
          rcases List.mem_append.1 hy with hy | hy
          · exact hS y hy
          · simp at hy; subst hy; exact hr
theorem turns_wf {s : Nat} {tr : List Int} (hs : 1 ≤ s) (hw : ∀ x ∈ tr, (Lit.int .u32 x).wf = true) : ∀ x ∈ turnsL s tr [], (Lit.int .u32 x.out).wf = true :=
  turnsL_out (P := fun y => (Lit.int .u32 y).wf = true) (by decide) hs tr [] hw (fun y hy => by cases hy)
theorem fold_D : ∀ (t S : List Int), (t.foldl addK S).length = S.length + D t S := by
  intro t
  induction t with
  | nil => intro S; rfl
  | cons r t ih =>
    intro S
    rw [List.foldl_cons, ih]
    by_cases h : r ∈ S
    · simp only [addK, D, h, if_true]
    · simp only [addK, D, h, if_false]
      simp; omega
theorem kl_D {tr : List Int} {n : Nat} (h : tr.length = n) : (kl tr n).length = D tr [] := by
  unfold kl
  rw [List.take_of_length_le (by omega), fold_D]; simp
theorem mem_kl {tr : List Int} {j : Nat} {x : Int} : x ∈ kl tr j ↔ x ∈ tr.take j := by
  unfold kl
  rw [(fold_addK (tr.take j) [] List.nodup_nil).2.2 x]; simp
theorem idx_le : ∀ (l : List Int) (i : Nat) (h : i < l.length), l.idxOf l[i] ≤ i := by
  intro l
  induction l with
  | nil => intro i h; cases h
  | cons a l ih =>
    intro i h
    rw [List.idxOf_cons]
    cases i with
    | zero => simp
    | succ i =>
      cases hb : (a == (a :: l)[i + 1]) with
      | true => simp
      | false =>
        have := ih i (by simpa using h)
        simp only [List.getElem_cons_succ, cond_false]
        omega
theorem nxt_new {tr : List Int} {j : Nat} (h : j < tr.length) : nxt tr 0 (nth tr j) = j ↔ nth tr j ∉ kl tr j := by
  unfold nxt
  rw [List.drop_zero, Nat.zero_add, mem_kl, nth_eq h]
  constructor
  · intro e hm
    obtain ⟨i, hi, e2⟩ := List.getElem_of_mem hm
    have hi' : i < j := by simp at hi; omega
    have h1 : tr[i]'(by omega) = tr[j] := by simpa using e2
    have h2 := List.idxOf_lt_length_of_mem (List.getElem_mem h)
    have : tr.idxOf tr[j] ≤ i := by
      rw [← h1]
      exact idx_le tr i (by omega)
    omega
  · intro hm
    have h2 := List.idxOf_lt_length_of_mem (List.getElem_mem h)
    have h3 : tr.idxOf tr[j] ≤ j := idx_le tr j h
    rcases Nat.lt_or_ge (tr.idxOf tr[j]) j with hlt | hge
    · exfalso
      apply hm
      have e := List.getElem_idxOf h2
      have hmt : (tr.take j)[tr.idxOf tr[j]]'(by simp; omega) = tr[j] := by simp
      rw [← hmt]
      exact List.getElem_mem _
    · omega
theorem diff_kl (tr : List Int) : ∀ j : Nat, j ≤ tr.length → diffTo tr j = (kl tr j).length := by
  intro j
  induction j with
  | zero => intro _; rfl
  | succ j ih =>
    intro h
    rw [diffTo_succ, ih (by omega)]
    by_cases hm : nth tr j ∈ kl tr j
    · rw [if_neg (fun e => ((nxt_new (by omega)).1 e) hm), kl_old (by omega) hm]; rfl
    · rw [if_pos ((nxt_new (by omega)).2 hm), kl_new (by omega) hm]; simp
theorem diff_D {tr : List Int} {n : Nat} (h : tr.length = n) : diffTo tr n = D tr [] := by rw [diff_kl tr n (by omega), kl_D h]

/-- The trace of a loop of q keys, the first k of n places laid. -/
def loopT (q n k : Nat) : List Int := (List.range n).map fun i => if i < k then ((i % q : Nat) : Int) else 0
theorem loopT_len (q n k : Nat) : (loopT q n k).length = n := by simp [loopT]
theorem loopT_set {q n k : Nat} : (loopT q n k).set k ((k % q : Nat) : Int) = loopT q n (k + 1) := by
  apply List.ext_getElem
  · simp [loopT]
  · intro i h1 h2
    rw [List.getElem_set]
    simp only [loopT, List.getElem_map, List.getElem_range]
    by_cases e : k = i
    · subst e; simp
    · rw [if_neg e]
      by_cases hl : i < k
      · rw [if_pos hl, if_pos (by omega)]
      · rw [if_neg hl, if_neg (by omega)]
theorem loopT_mem {q n : Nat} {x : Int} (hq : 0 < q) (hn : q ≤ n) : x ∈ loopT q n n ↔ x ∈ (List.range q).map fun i : Nat => (i : Int) := by
  simp only [loopT, List.mem_map, List.mem_range]
  constructor
  · rintro ⟨i, hi, rfl⟩
    rw [if_pos hi]
    exact ⟨i % q, Nat.mod_lt _ hq, rfl⟩
  · rintro ⟨i, hi, rfl⟩
    exact ⟨i, by omega, by rw [if_pos (by omega), Nat.mod_eq_of_lt hi]⟩
theorem loopT_D {q n : Nat} (hq : 0 < q) (hn : q ≤ n) : D (loopT q n n) [] = q := by
  rw [← kl_D (loopT_len q n n)]
  have h1 := kl_nodup (loopT q n n) n
  have h2 : ((List.range q).map fun i : Nat => (i : Int)).Nodup := by
    unfold List.Nodup
    rw [List.pairwise_map]
    exact (List.nodup_range (n := q)).imp (fun {a b} h e => h (by exact_mod_cast e))
  have h3 : (kl (loopT q n n) n).Perm ((List.range q).map fun i : Nat => (i : Int)) := by
    rw [List.perm_ext_iff_of_nodup h1 h2]
    intro x
    rw [mem_kl, List.take_of_length_le (by rw [loopT_len]; omega), loopT_mem hq hn]
  rw [h3.length_eq]; simp
theorem loopT_wf {q n k : Nat} (hq : 0 < q) (hq8 : q ≤ 8) : ∀ x ∈ loopT q n k, (Lit.int .u32 x).wf = true := by
  intro x hx
  simp only [loopT, List.mem_map, List.mem_range] at hx
  obtain ⟨i, hi, rfl⟩ := hx
  have hm := Nat.mod_lt i hq
  split
  · simp only [Lit.wf, IntKind.min, IntKind.max, IntKind.bits, IntKind.signed]; simp; omega
  · decide
theorem loopT_zero (q n : Nat) : loopT q n 0 = List.replicate n 0 := by
  simp [loopT, List.map_const']
theorem loop_hits {q n s : Nat} (hq : 0 < q) (hn : q ≤ n) (hs : q ≤ s) : hits (turnsL s (loopT q n n) []) = n - q := by
  have := hits_all (s := s) (loopT q n n) [] (by rw [loopT_D hq hn]; simpa using hs)
  rw [loopT_D hq hn, loopT_len] at this
  omega
theorem check_turns {s : Nat} (hs : 1 ≤ s) (tr : List Int) : checkH s tr (turnsL s tr []) = hits (turnsL s tr []) ∧ checkE s tr (turnsL s tr []) = 0 := by
  have h := chk_turnsL hs tr [] [] List.nodup_nil (Nat.zero_le _) (List.Perm.refl _)
  unfold checkH checkE
  rw [h]; exact ⟨rfl, rfl⟩

/-- What another policy has done with the first k requests. -/
structure Pol (s : Nat) (tr : List Int) (k : Nat) (ts : List Turn) (S : List Int) : Prop where
  len : ts.length = k
  nodup : S.Nodup
  room : S.length ≤ s
  chk : ∀ xs, chk s tr (ts ++ xs) [] = chk s (tr.drop k) xs S
  wf : ∀ x ∈ ts, (Lit.int .u32 x.out).wf = true
  mem : ∀ y ∈ S, y ∈ tr
section
variable {s k : Nat} {tr : List Int} {ts : List Turn} {S : List Int}
theorem Pol.start (s : Nat) (tr : List Int) : Pol s tr 0 [] [] := ⟨rfl, List.nodup_nil, Nat.zero_le _, fun _ => by rw [List.nil_append, List.drop_zero], fun _ h => (by cases h), fun _ h => (by cases h)⟩
theorem Pol.step (h : Pol s tr k ts S) (hk : k < tr.length) (x : Turn) (S' : List Int) (hb : bad S (nth tr k) x.hit x.left x.out = false)
    (hp : S'.Perm (wo (if x.left = true then wo S x.out else S) (nth tr k) ++ [nth tr k])) (hd : S'.Nodup) (hl : S'.length ≤ s) (hm : ∀ y ∈ S', y ∈ tr) (hw : (Lit.int .u32 x.out).wf = true) : Pol s tr (k + 1) (ts ++ [x]) S' := by
  obtain ⟨xh, xl, xo⟩ := x
  refine ⟨by simp [h.len], hd, hl, fun xs => ?_, fun y hy => ?_, hm⟩
  · rw [List.append_assoc, h.chk, List.singleton_append, drop_at hk, chk_cons]
    unfold bad at hb
    rw [Bool.or_eq_false_iff] at hb
    have h3 := hp.length_eq
    rw [if_neg (by rw [hb.1]; simp), if_neg (by rw [hb.2]; simp), if_neg (by simp only at h3; omega)]
    exact (chk_perm s _ _ _ _ hp).symm
  · rcases List.mem_append.1 hy with hy | hy
    · exact h.wf y hy
    · simp at hy; subst hy; exact hw
theorem Pol.hit (h : Pol s tr k ts S) (hk : k < tr.length) (hm : nth tr k ∈ S) : Pol s tr (k + 1) (ts ++ [⟨true, false, 0⟩]) S := by
  refine h.step hk _ S (by simp [bad, hm]) ?_ h.nodup h.room h.mem (show (Lit.int .u32 0).wf = true by decide)
  exact (perm_cons_wo h.nodup hm).trans (List.perm_append_singleton _ _).symm
theorem Pol.add (h : Pol s tr k ts S) (hk : k < tr.length) (hm : nth tr k ∉ S) (hl : S.length ≠ s) : Pol s tr (k + 1) (ts ++ [⟨false, false, 0⟩]) (S ++ [nth tr k]) := by
  have := h.room
  refine h.step hk _ _ (by simp [bad, hm]) (by simp [wo_of_not_mem hm]) (snoc_nodup h.nodup hm) (by simp; omega) (fun y hy => ?_) (show (Lit.int .u32 0).wf = true by decide)
  rcases List.mem_append.1 hy with hy | hy
  · exact h.mem y hy
  · simp at hy; subst hy; exact nth_mem hk
theorem wo_at {S : List Int} (hd : S.Nodup) {j : Nat} (hj : j < S.length) : S.take j ++ S.drop (j + 1) = wo S S[j] := by
  have e : S = S.take j ++ S[j] :: S.drop (j + 1) := by rw [← List.drop_eq_getElem_cons hj, List.take_append_drop]
  have hd' : (S.take j ++ S[j] :: S.drop (j + 1)).Nodup := by rw [← e]; exact hd
  have h1 := List.nodup_append.1 hd'
  have n1 : S[j] ∉ S.take j := fun hm => h1.2.2 _ hm _ (List.mem_cons_self ..) rfl
  have n2 : S[j] ∉ S.drop (j + 1) := (List.nodup_cons.1 h1.2.1).1
  have e2 : wo S S[j] = wo (S.take j ++ S[j] :: S.drop (j + 1)) S[j] := congrArg (fun l => wo l S[j]) e
  rw [e2, wo_app, wo_of_not_mem n1, wo_cons_self n2]
theorem Pol.swap (h : Pol s tr k ts S) (hw : ∀ y ∈ tr, (Lit.int .u32 y).wf = true) (hk : k < tr.length) (hm : nth tr k ∉ S) {j : Nat} (hj : j < S.length) :
    Pol s tr (k + 1) (ts ++ [⟨false, true, nth S j⟩]) ((S.take j ++ S.drop (j + 1)) ++ [nth tr k]) := by
  have hmj : nth S j ∈ S := nth_mem hj
  have hr := h.room
  rw [wo_at h.nodup hj, ← nth_eq hj]
  have hn : nth tr k ∉ wo S (nth S j) := fun e => hm (mem_wo.1 e).1
  have hlen := wo_length h.nodup hmj
  refine h.step hk _ _ (by simp [bad, hm, hmj]) (by simp [wo_of_not_mem hn]) (snoc_nodup (wo_nodup h.nodup) hn) (by simp; omega) (fun y hy => ?_) (hw _ (h.mem _ hmj))
  rcases List.mem_append.1 hy with hy | hy
  · exact h.mem y (mem_wo.1 hy).1
  · simp at hy; subst hy; exact nth_mem hk
theorem Pol.done {n : Nat} (h : Pol s tr n ts S) (hn : tr.length = n) (hs : 1 ≤ s) : Bel.chk s tr ts [] = true ∧ hits ts ≤ hits (turnsL s tr []) := by
  have h1 := h.chk []
  rw [List.append_nil, List.drop_of_length_le (by omega)] at h1
  have h2 : Bel.chk s tr ts [] = true := h1
  refine ⟨h2, ?_⟩
  rw [hits_turnsL hs tr [] List.nodup_nil (Nat.zero_le _)]
  exact hits_chk tr ts [] (by rw [hn, h.len]) List.nodup_nil (Nat.zero_le _) h2
end
end Go.Proofs.Ythclmacnmbmepaa
