/- Belady's policy has the most hits: plain law, no program. -/
namespace Bel
def wo (L : List Int) (k : Int) : List Int := L.filter (fun x => x != k)
def mx (l : List Nat) : Nat := l.foldl max 0

theorem foldl_max_ge (l : List Nat) : ∀ a : Nat, a ≤ l.foldl max a := by
  induction l with
  | nil => intro a; exact Nat.le_refl _
  | cons b l ih => intro a; exact Nat.le_trans (Nat.le_max_left a b) (ih _)
theorem le_foldl_max (l : List Nat) : ∀ (a x : Nat), x ∈ l → x ≤ l.foldl max a := by
  induction l with
  | nil => intro a x h; cases h
  | cons b l ih =>
    intro a x h
    rcases List.mem_cons.1 h with rfl | h
    · exact Nat.le_trans (Nat.le_max_right a x) (foldl_max_ge l _)
    · exact ih _ _ h
theorem foldl_max_le (l : List Nat) (B : Nat) : ∀ a : Nat, a ≤ B → (∀ x ∈ l, x ≤ B) → l.foldl max a ≤ B := by
  induction l with
  | nil => intro a h _; exact h
  | cons b l ih => intro a h hx; exact ih _ (Nat.max_le.2 ⟨h, hx b (by simp)⟩) (fun x h => hx x (by simp [h]))
theorem le_mx {l : List Nat} {x : Nat} (h : x ∈ l) : x ≤ mx l := le_foldl_max l 0 x h
theorem mx_le {l : List Nat} {B : Nat} (h : ∀ x ∈ l, x ≤ B) : mx l ≤ B := foldl_max_le l B 0 (Nat.zero_le _) h

/-- The most hits that any policy has, by trying all. -/
def V (s : Nat) : List Int → List Int → Nat
  | [], _ => 0
  | r :: t, S => if r ∈ S then 1 + V s t S else if S.length < s then V s t (S ++ [r]) else mx (S.map fun k => V s t (wo (S ++ [r]) k))

theorem V_hit {s : Nat} {r : Int} {t S : List Int} (h : r ∈ S) : V s (r :: t) S = 1 + V s t S := by simp [V, h]
theorem V_room {s : Nat} {r : Int} {t S : List Int} (h : r ∉ S) (hs : S.length < s) : V s (r :: t) S = V s t (S ++ [r]) := by simp [V, h, hs]
theorem V_full {s : Nat} {r : Int} {t S : List Int} (h : r ∉ S) (hs : ¬ S.length < s) : V s (r :: t) S = mx (S.map fun k => V s t (wo (S ++ [r]) k)) := by simp [V, h, hs]
theorem V_le {s : Nat} {r : Int} {t S : List Int} {B : Nat} (h : r ∉ S) (hs : ¬ S.length < s) (hb : ∀ k ∈ S, V s t (wo (S ++ [r]) k) ≤ B) : V s (r :: t) S ≤ B := by
  rw [V_full h hs]
  refine mx_le ?_
  intro x hx
  obtain ⟨k, hk, rfl⟩ := List.mem_map.1 hx
  exact hb k hk
theorem le_V {s : Nat} {r : Int} {t S : List Int} {k : Int} (h : r ∉ S) (hs : ¬ S.length < s) (hk : k ∈ S) : V s t (wo (S ++ [r]) k) ≤ V s (r :: t) S := by
  rw [V_full h hs]
  exact le_mx (List.mem_map.2 ⟨k, hk, rfl⟩)

theorem V_perm {s : Nat} : ∀ (t : List Int) {S S' : List Int}, S.Perm S' → V s t S = V s t S' := by
  intro t
  induction t with
  | nil => intro S S' _; rfl
  | cons r t ih =>
    intro S S' hp
    have hm : ∀ x, x ∈ S ↔ x ∈ S' := fun x => hp.mem_iff
    have hl := hp.length_eq
    have hw : ∀ k, V s t (wo (S ++ [r]) k) = V s t (wo (S' ++ [r]) k) := fun k => ih ((hp.append_right [r]).filter _)
    by_cases h : r ∈ S
    · rw [V_hit h, V_hit ((hm r).1 h), ih hp]
    · have h' : r ∉ S' := fun e => h ((hm r).2 e)
      by_cases hs : S.length < s
      · rw [V_room h hs, V_room h' (by omega), ih (hp.append_right [r])]
      · refine Nat.le_antisymm ?_ ?_
        · refine V_le h hs fun k hk => ?_
          rw [hw k]
          exact le_V h' (by omega) ((hm k).1 hk)
        · refine V_le h' (by omega) fun k hk => ?_
          rw [← hw k]
          exact le_V h hs ((hm k).2 hk)

theorem wo_of_not_mem {L : List Int} {k : Int} (h : k ∉ L) : wo L k = L := by
  unfold wo
  rw [List.filter_eq_self]
  intro a ha
  simp only [bne_iff_ne, ne_eq]
  intro e; subst e; exact h ha
theorem wo_cons_self {L : List Int} {k : Int} (h : k ∉ L) : wo (k :: L) k = L := by
  have := wo_of_not_mem h
  unfold wo at *
  simpa using this
theorem wo_cons_ne {L : List Int} {k x : Int} (h : x ≠ k) : wo (x :: L) k = x :: wo L k := by
  unfold wo; simp [h]
theorem wo_app {L M : List Int} {k : Int} : wo (L ++ M) k = wo L k ++ wo M k := by unfold wo; simp
theorem mem_wo {L : List Int} {k x : Int} : x ∈ wo L k ↔ x ∈ L ∧ x ≠ k := by unfold wo; simp
theorem wo_nodup {L : List Int} {k : Int} (h : L.Nodup) : (wo L k).Nodup := h.filter _
theorem wo_perm {L M : List Int} {k : Int} (h : L.Perm M) : (wo L k).Perm (wo M k) := h.filter _
theorem perm_cons_wo {L : List Int} {k : Int} (hd : L.Nodup) (h : k ∈ L) : L.Perm (k :: wo L k) := by
  induction L with
  | nil => cases h
  | cons a L ih =>
    rw [List.nodup_cons] at hd
    by_cases e : a = k
    · subst e; rw [wo_cons_self hd.1]
    · rw [wo_cons_ne e]
      rcases List.mem_cons.1 h with h | h
      · exact absurd h.symm e
      · exact ((ih hd.2 h).cons a).trans (List.Perm.swap k a _)
theorem wo_length {L : List Int} {k : Int} (hd : L.Nodup) (h : k ∈ L) : (wo L k).length + 1 = L.length := by
  have := (perm_cons_wo hd h).length_eq
  simpa using this.symm
theorem V_app1 {s : Nat} {t S : List Int} {r : Int} : V s t (S ++ [r]) = V s t (r :: S) := V_perm t (List.perm_append_singleton r S)

/-- The step of a miss with a full cache, on a cache that is written as a list without repeats. -/
theorem wo_snoc {S : List Int} {r k : Int} (hr : r ∉ S) (hk : k ∈ S) : wo (S ++ [r]) k = wo S k ++ [r] := by
  rw [wo_app]
  have : wo [r] k = [r] := wo_of_not_mem (by intro e; have := List.mem_singleton.1 e; subst this; exact hr hk)
  rw [this]
theorem V_room' {s : Nat} {r : Int} {t S : List Int} (h : r ∉ S) (hs : S.length < s) : V s (r :: t) S = V s t (r :: S) := by rw [V_room h hs, V_app1]
theorem V_le' {s : Nat} {r : Int} {t S : List Int} {B : Nat} (h : r ∉ S) (hs : ¬ S.length < s) (hb : ∀ k ∈ S, V s t (r :: wo S k) ≤ B) : V s (r :: t) S ≤ B :=
  V_le h hs fun k hk => by rw [wo_snoc h hk, V_app1]; exact hb k hk
theorem le_V' {s : Nat} {r : Int} {t S : List Int} {k : Int} (h : r ∉ S) (hs : ¬ S.length < s) (hk : k ∈ S) : V s t (r :: wo S k) ≤ V s (r :: t) S := by
  have := le_V (t := t) h hs hk
  rwa [wo_snoc h hk, V_app1] at this
theorem V_swap {s : Nat} {t R : List Int} {x y : Int} : V s t (x :: y :: R) = V s t (y :: x :: R) := V_perm t (List.Perm.swap y x R)

theorem V_more {s : Nat} : ∀ (t : List Int) (R : List Int) (z : Int), R.Nodup → z ∉ R → R.length + 1 ≤ s → V s t R ≤ V s t (z :: R) := by
  intro t
  induction t with
  | nil => intro R z _ _ _; exact Nat.le_refl _
  | cons r t ih =>
    intro R z hd hz hl
    by_cases hr : r ∈ R
    · rw [V_hit hr, V_hit (List.mem_cons_of_mem z hr)]
      have := ih R z hd hz hl
      omega
    · by_cases e : r = z
      · subst e
        rw [V_hit (List.mem_cons_self), V_room' hr (by omega)]
        omega
      · have hr' : r ∉ z :: R := by simp [e, hr]
        rw [V_room' hr (by omega)]
        by_cases hf : (z :: R).length < s
        · rw [V_room' hr' hf, V_swap]
          exact ih (r :: R) z (by simp [hd, hr]) (by simp [Ne.symm e, hz]) (by simp at hf ⊢; omega)
        · have := le_V' (t := t) (k := z) hr' hf (by simp)
          rwa [wo_cons_self hz] at this

theorem V_less {s : Nat} : ∀ (t : List Int) (R : List Int) (z : Int), R.Nodup → z ∉ R → R.length + 1 ≤ s → V s t (z :: R) ≤ 1 + V s t R := by
  intro t
  induction t with
  | nil => intro R z _ _ _; exact Nat.zero_le _
  | cons r t ih =>
    intro R z hd hz hl
    by_cases hr : r ∈ R
    · rw [V_hit hr, V_hit (List.mem_cons_of_mem z hr)]
      have := ih R z hd hz hl
      omega
    · by_cases e : r = z
      · subst e
        rw [V_hit (List.mem_cons_self), V_room' hr (by omega)]
        exact Nat.le_refl _
      · have hr' : r ∉ z :: R := by simp [e, hr]
        rw [V_room' hr (by omega)]
        by_cases hf : (z :: R).length < s
        · rw [V_room' hr' hf, V_swap]
          exact ih (r :: R) z (by simp [hd, hr]) (by simp [Ne.symm e, hz]) (by simp at hf ⊢; omega)
        · refine V_le' hr' hf fun k hk => ?_
          rcases List.mem_cons.1 hk with rfl | hk
          · rw [wo_cons_self hz]; omega
          · have hzk : z ≠ k := by intro e; subst e; exact hz hk
            rw [wo_cons_ne hzk, V_swap]
            have hwl := wo_length hd hk
            have hwd := wo_nodup (k := k) hd
            have hrw : r ∉ wo R k := fun h => hr (mem_wo.1 h).1
            have hzw : z ∉ wo R k := fun h => hz (mem_wo.1 h).1
            have h1 := ih (r :: wo R k) z (by simp [hwd, hrw]) (by simp [Ne.symm e, hzw]) (by simp; omega)
            have h2 := V_more (s := s) t (r :: wo R k) k (by simp [hwd, hrw]) (by simp [mem_wo]; intro e; subst e; exact hr hk) (by simp; omega)
            have h3 : V s t (k :: r :: wo R k) = V s t (r :: R) := by
              rw [V_swap]; exact V_perm t ((perm_cons_wo hd hk).symm.cons r)
            omega

/-- The exchange: of two keys it is no worse to hold the one that comes sooner. -/
theorem V_exchange {s : Nat} : ∀ (t : List Int) (R : List Int) (x y : Int), R.Nodup → x ∉ R → y ∉ R → x ≠ y → R.length + 1 ≤ s →
    t.idxOf y ≤ t.idxOf x → V s t (x :: R) ≤ V s t (y :: R) := by
  intro t
  induction t with
  | nil => intro R x y _ _ _ _ _ _; exact Nat.le_refl _
  | cons r t ih =>
    intro R x y hd hx hy hxy hl hi
    have ex : r ≠ x := by
      intro e; subst e
      have hry : (r == y) = false := by simpa using hxy
      simp [List.idxOf_cons, hry] at hi
    by_cases ey : r = y
    · subst ey
      rw [V_hit (List.mem_cons_self)]
      have hrx : r ∉ x :: R := by simp [ex, hy]
      by_cases hf : (x :: R).length < s
      · rw [V_room' hrx hf, V_swap]
        exact V_less t (r :: R) x (by simp [hd, hy]) (by simp [hxy, hx]) (by simp at hf ⊢; omega)
      · refine V_le' hrx hf fun k hk => ?_
        rcases List.mem_cons.1 hk with rfl | hk
        · rw [wo_cons_self hx]; omega
        · have hxk : x ≠ k := by intro e; subst e; exact hx hk
          rw [wo_cons_ne hxk, V_swap]
          have hwl := wo_length hd hk
          have hwd := wo_nodup (k := k) hd
          have hrw : r ∉ wo R k := fun h => hy (mem_wo.1 h).1
          have hxw : x ∉ wo R k := fun h => hx (mem_wo.1 h).1
          have h1 := V_less (s := s) t (r :: wo R k) x (by simp [hwd, hrw]) (by simp [hxy, hxw]) (by simp; omega)
          have h2 := V_more (s := s) t (r :: wo R k) k (by simp [hwd, hrw]) (by simp [mem_wo]; intro e; subst e; exact hy hk) (by simp; omega)
          have h3 : V s t (k :: r :: wo R k) = V s t (r :: R) := by
            rw [V_swap]; exact V_perm t ((perm_cons_wo hd hk).symm.cons r)
          omega
    · have hi' : t.idxOf y ≤ t.idxOf x := by
        have h1 : (r == x) = false := by simpa using ex
        have h2 : (r == y) = false := by simpa using ey
        simp [List.idxOf_cons, h1, h2] at hi
        exact hi
      by_cases hr : r ∈ R
      · rw [V_hit (List.mem_cons_of_mem _ hr), V_hit (List.mem_cons_of_mem _ hr)]
        have := ih R x y hd hx hy hxy hl hi'
        omega
      · have hrx : r ∉ x :: R := by simp [ex, hr]
        have hry : r ∉ y :: R := by simp [ey, hr]
        by_cases hf : R.length + 1 < s
        · rw [V_room' hrx (by simpa using hf), V_room' hry (by simpa using hf), V_swap, V_swap (y := y)]
          exact ih (r :: R) x y (by simp [hd, hr]) (by simp [Ne.symm ex, hx]) (by simp [Ne.symm ey, hy]) hxy (by simp; omega) hi'
        · have hfx : ¬ (x :: R).length < s := by simpa using hf
          have hfy : ¬ (y :: R).length < s := by simpa using hf
          refine V_le' hrx hfx fun k hk => ?_
          rcases List.mem_cons.1 hk with rfl | hk
          · rw [wo_cons_self hx]
            have := le_V' (t := t) (k := y) hry hfy (by simp)
            rwa [wo_cons_self hy] at this
          · have hxk : x ≠ k := by intro e; subst e; exact hx hk
            have hyk : y ≠ k := by intro e; subst e; exact hy hk
            have h1 := le_V' (t := t) (k := k) hry hfy (by simp [hk])
            rw [wo_cons_ne hyk, V_swap] at h1
            rw [wo_cons_ne hxk, V_swap]
            have hwl := wo_length hd hk
            have hwd := wo_nodup (k := k) hd
            have hrw : r ∉ wo R k := fun h => hr (mem_wo.1 h).1
            refine Nat.le_trans (ih (r :: wo R k) x y (by simp [hwd, hrw]) (by simp [Ne.symm ex, mem_wo, hx]) (by simp [Ne.symm ey, mem_wo, hy]) hxy (by simp; omega) hi') h1

/-- With room for one key more there are no fewer hits. -/
theorem V_size {s : Nat} : ∀ (t : List Int) (S : List Int), S.Nodup → S.length ≤ s → V s t S ≤ V (s + 1) t S := by
  intro t
  induction t with
  | nil => intro S _ _; exact Nat.le_refl _
  | cons r t ih =>
    intro S hd hl
    by_cases hr : r ∈ S
    · rw [V_hit hr, V_hit hr]
      have := ih S hd hl
      omega
    · rw [V_room' (s := s + 1) hr (by omega)]
      by_cases hf : S.length < s
      · rw [V_room' hr hf]
        exact ih (r :: S) (by simp [hd, hr]) (by simp at hf ⊢; omega)
      · refine V_le' hr hf fun k hk => ?_
        have hwl := wo_length hd hk
        have hwd := wo_nodup (k := k) hd
        have hrw : r ∉ wo S k := fun h => hr (mem_wo.1 h).1
        have h1 := ih (r :: wo S k) (by simp [hwd, hrw]) (by simp; omega)
        have h2 := V_more (s := s + 1) t (r :: wo S k) k (by simp [hwd, hrw]) (by simp [mem_wo]; intro e; subst e; exact hr hk) (by simp; omega)
        have h3 : V (s + 1) t (k :: r :: wo S k) = V (s + 1) t (r :: S) := by
          rw [V_swap]; exact V_perm t ((perm_cons_wo hd hk).symm.cons r)
        omega

/-- What a policy does with one request. -/
structure Turn where
  hit : Bool
  left : Bool
  out : Int
  deriving DecidableEq

/-- The key that leaves: the one that comes latest, of two such ones the smallest. -/
def bst (t : List Int) : List Int → Int
  | [] => 0
  | a :: l => l.foldl (fun b k => if t.idxOf b < t.idxOf k ∨ (t.idxOf k = t.idxOf b ∧ k < b) then k else b) a
theorem fold_bst (t : List Int) (l : List Int) : ∀ a : Int,
    (l.foldl (fun b k => if t.idxOf b < t.idxOf k ∨ (t.idxOf k = t.idxOf b ∧ k < b) then k else b) a ∈ a :: l) ∧
    ∀ x ∈ a :: l, t.idxOf x ≤ t.idxOf (l.foldl (fun b k => if t.idxOf b < t.idxOf k ∨ (t.idxOf k = t.idxOf b ∧ k < b) then k else b) a) := by
  induction l with
  | nil => intro a; simp
  | cons c l ih =>
    intro a
    have h := ih (if t.idxOf a < t.idxOf c ∨ (t.idxOf c = t.idxOf a ∧ c < a) then c else a)
    rw [List.foldl_cons]
    refine ⟨?_, ?_⟩
    · have h1 := h.1
      rcases List.mem_cons.1 h1 with h1 | h1
      · rw [h1]; split <;> simp
      · simp [h1]
    · intro x hx
      have h2 := h.2 _ (List.mem_cons_self)
      rcases List.mem_cons.1 hx with rfl | hx
      · refine Nat.le_trans ?_ h2
        split
        · rename_i hc; omega
        · exact Nat.le_refl _
      · rcases List.mem_cons.1 hx with rfl | hx
        · refine Nat.le_trans ?_ h2
          split
          · exact Nat.le_refl _
          · rename_i hc; omega
        · exact h.2 x (List.mem_cons_of_mem _ hx)
theorem bst_mem {t S : List Int} (h : S ≠ []) : bst t S ∈ S := by
  cases S with
  | nil => exact absurd rfl h
  | cons a l => exact (fold_bst t l a).1
theorem bst_max {t S : List Int} {x : Int} (h : x ∈ S) : t.idxOf x ≤ t.idxOf (bst t S) := by
  cases S with
  | nil => cases h
  | cons a l => exact (fold_bst t l a).2 x h

/-- What the optimal policy does with what is left of a trace. -/
def turnsL (s : Nat) : List Int → List Int → List Turn
  | [], _ => []
  | r :: t, S => if r ∈ S then ⟨true, false, 0⟩ :: turnsL s t S
    else if S.length = s then ⟨false, true, bst t S⟩ :: turnsL s t (wo S (bst t S) ++ [r])
    else ⟨false, false, 0⟩ :: turnsL s t (S ++ [r])
def hits (l : List Turn) : Nat := l.countP (fun x => x.hit)
theorem hits_cons (x : Turn) (l : List Turn) : hits (x :: l) = (if x.hit then 1 else 0) + hits l := by
  unfold hits; rw [List.countP_cons]; split <;> omega

theorem snoc_nodup {S : List Int} {r : Int} (h : S.Nodup) (hr : r ∉ S) : (S ++ [r]).Nodup := (List.perm_append_singleton r S).nodup_iff.2 (by simp [h, hr])

/-- The optimal policy has the most hits. -/
theorem hits_turnsL {s : Nat} (hs : 1 ≤ s) : ∀ (t S : List Int), S.Nodup → S.length ≤ s → hits (turnsL s t S) = V s t S := by
  intro t
  induction t with
  | nil => intro S _ _; rfl
  | cons r t ih =>
    intro S hd hl
    unfold turnsL
    by_cases hr : r ∈ S
    · rw [if_pos hr, hits_cons, V_hit hr, ih S hd hl]; rfl
    · rw [if_neg hr]
      by_cases hf : S.length = s
      · rw [if_pos hf, hits_cons]
        have hne : S ≠ [] := by intro e; subst e; simp at hf; omega
        have hm := bst_mem (t := t) hne
        have hwl := wo_length hd hm
        have hwd := wo_nodup (k := bst t S) hd
        have hrw : r ∉ wo S (bst t S) := fun h => hr (mem_wo.1 h).1
        rw [ih _ (snoc_nodup hwd hrw) (by simp; omega), V_app1]
        simp only [Bool.false_eq_true, if_false, Nat.zero_add]
        refine Nat.le_antisymm (le_V' hr (by omega) hm) (V_le' hr (by omega) fun k hk => ?_)
        by_cases e : k = bst t S
        · rw [e]; exact Nat.le_refl _
        · -- what lies behind 'k' is the best one and the rest; behind the best one, 'k' and the rest
          have hkw : bst t S ∈ wo S k := mem_wo.2 ⟨hm, Ne.symm e⟩
          have hbw : k ∈ wo S (bst t S) := mem_wo.2 ⟨hk, e⟩
          have p1 := perm_cons_wo (wo_nodup (k := k) hd) hkw
          have p2 := perm_cons_wo (wo_nodup (k := bst t S) hd) hbw
          have hcomm : wo (wo S k) (bst t S) = wo (wo S (bst t S)) k := by
            unfold wo; simp only [List.filter_filter]; congr 1; funext x; exact Bool.and_comm _ _
          have hRd := wo_nodup (k := k) (wo_nodup (k := bst t S) hd)
          have hlen := wo_length (wo_nodup (k := bst t S) hd) hbw
          have hrR : r ∉ wo (wo S (bst t S)) k := fun h => hrw (mem_wo.1 h).1
          have h := V_exchange (s := s) t (r :: wo (wo S (bst t S)) k) (bst t S) k (by simp [hRd, hrR]) (by simp [mem_wo]; intro e; subst e; exact hr hm)
            (by simp [mem_wo]; intro e; subst e; exact hr hk) (Ne.symm e) (by simp; omega) (bst_max hk)
          have e1 : V s t (r :: wo S k) = V s t (bst t S :: r :: wo (wo S (bst t S)) k) := by
            rw [V_swap, ← hcomm]; exact V_perm t (p1.cons r)
          have e2 : V s t (r :: wo S (bst t S)) = V s t (k :: r :: wo (wo S (bst t S)) k) := by
            rw [V_swap]; exact V_perm t (p2.cons r)
          omega
      · rw [if_neg hf, hits_cons, ih _ (snoc_nodup hd hr) (by simp; omega), V_app1, V_room' hr (by omega)]
        simp

/-- Are these turns those of some policy? -/
def chk (s : Nat) : List Int → List Turn → List Int → Bool
  | r :: t, x :: xs, S =>
    if x.hit != decide (r ∈ S) || x.hit && x.left || !x.left && x.out != 0 then false
    else if x.left && !decide (x.out ∈ S) then false
    else
      let S1 := if x.left then wo S x.out else S
      let S2 := wo S1 r ++ [r]
      if S2.length > s then false else chk s t xs S2
  | _, _, _ => true

theorem chk_turnsL {s : Nat} (hs : 1 ≤ s) : ∀ (t S S' : List Int), S.Nodup → S.length ≤ s → S.Perm S' → chk s t (turnsL s t S) S' = true := by
  intro t
  induction t with
  | nil => intro S S' _ _ _; rfl
  | cons r t ih =>
    intro S S' hd hl hp
    have hd' := hp.nodup_iff.1 hd
    have hl' := hp.length_eq
    unfold turnsL
    by_cases hr : r ∈ S
    · have hr' := hp.mem_iff.1 hr
      have hwl := wo_length hd' hr'
      rw [if_pos hr]
      simp only [chk, hr']
      have hlen : ¬ (wo S' r ++ [r]).length > s := by simp; omega
      simp only [decide_true, bne_self_eq_false, Bool.and_false, Bool.or_false, Bool.not_false, Bool.false_eq_true, if_false, hlen]
      exact ih S _ hd hl (hp.trans ((perm_cons_wo hd' hr').trans (List.perm_append_singleton r _).symm))
    · have hr' : r ∉ S' := fun h => hr (hp.mem_iff.2 h)
      rw [if_neg hr]
      by_cases hf : S.length = s
      · rw [if_pos hf]
        have hne : S ≠ [] := by intro e; subst e; simp at hf; omega
        have hm := bst_mem (t := t) hne
        have hm' := hp.mem_iff.1 hm
        have hwl := wo_length hd hm
        have hwd := wo_nodup (k := bst t S) hd
        have hrw : r ∉ wo S (bst t S) := fun h => hr (mem_wo.1 h).1
        have hrw' : r ∉ wo S' (bst t S) := fun h => hr' (mem_wo.1 h).1
        simp only [chk, hr', hm']
        have hwo : wo (wo S' (bst t S)) r = wo S' (bst t S) := wo_of_not_mem hrw'
        have hwl' := wo_length hd' hm'
        have hlen : ¬ (wo S' (bst t S) ++ [r]).length > s := by simp; omega
        simp only [decide_false, decide_true, bne_self_eq_false, Bool.false_and, Bool.or_false, Bool.not_true, Bool.and_false, Bool.false_eq_true, if_false, if_true, hwo, hlen]
        exact ih _ _ (snoc_nodup hwd hrw) (by simp; omega) ((wo_perm hp).append_right [r])
      · rw [if_neg hf]
        simp only [chk, hr']
        have hwo : wo S' r = S' := wo_of_not_mem hr'
        have hlen : ¬ (S' ++ [r]).length > s := by simp; omega
        simp only [decide_false, bne_self_eq_false, Bool.false_and, Bool.or_false, Bool.not_false, Bool.and_false, Bool.false_eq_true, if_false, hwo, hlen]
        exact ih _ _ (snoc_nodup hd hr) (by simp; omega) (hp.append_right [r])

/-- No turns of a policy have more hits. -/
theorem hits_chk {s : Nat} : ∀ (t : List Int) (xs : List Turn) (S : List Int), t.length = xs.length → S.Nodup → S.length ≤ s → chk s t xs S = true → hits xs ≤ V s t S := by
  intro t
  induction t with
  | nil => intro xs S h _ _ _; cases xs with
    | nil => exact Nat.le_refl _
    | cons x xs => simp at h
  | cons r t ih =>
    intro xs S h hd hl hc
    cases xs with
    | nil => simp at h
    | cons x xs =>
      have h' : t.length = xs.length := by simpa using h
      obtain ⟨xh, xl, xo⟩ := x
      rw [hits_cons]
      simp only [chk] at hc
      by_cases hc1 : (xh != decide (r ∈ S) || xh && xl || !xl && xo != 0) = true
      · rw [if_pos hc1] at hc; cases hc
      rw [if_neg hc1] at hc
      by_cases hc2 : (xl && !decide (xo ∈ S)) = true
      · rw [if_pos hc2] at hc; cases hc
      rw [if_neg hc2] at hc
      by_cases hc3 : (wo (if xl = true then wo S xo else S) r ++ [r]).length > s
      · rw [if_pos hc3] at hc; cases hc
      rw [if_neg hc3] at hc
      simp only [Bool.not_eq_true, Bool.or_eq_false_iff, bne_eq_false_iff_eq] at hc1
      obtain ⟨⟨hh, h2⟩, h3⟩ := hc1
      by_cases hr : r ∈ S
      · have hxh : xh = true := by rw [hh]; simp [hr]
        subst hxh
        have hxl : xl = false := by simpa using h2
        subst hxl
        rw [V_hit hr]
        simp only [Bool.false_eq_true, if_false] at hc hc3
        have hp := (perm_cons_wo hd hr).trans (List.perm_append_singleton r _).symm
        have := ih xs _ h' (hp.nodup_iff.1 hd) (by rw [← hp.length_eq]; exact hl) hc
        rw [← V_perm t hp] at this
        simp only [if_true]; omega
      · have hxh : xh = false := by rw [hh]; simp [hr]
        subst hxh
        simp only [Bool.false_eq_true, if_false, Nat.zero_add]
        cases xl with
        | false =>
          simp only [Bool.false_eq_true, if_false, wo_of_not_mem hr] at hc hc3
          have hlt : S.length < s := by simp at hc3; omega
          have := ih xs _ h' (snoc_nodup hd hr) (by simp; omega) hc
          rwa [V_room hr hlt]
        | true =>
          have hm : xo ∈ S := by simpa using hc2
          have hrw : r ∉ wo S xo := fun h => hr (mem_wo.1 h).1
          have hwl := wo_length hd hm
          have hwd := wo_nodup (k := xo) hd
          simp only [if_true, wo_of_not_mem hrw] at hc hc3
          have := ih xs _ h' (snoc_nodup hwd hrw) (by simp; omega) hc
          rw [V_app1] at this
          refine Nat.le_trans this ?_
          by_cases hf : S.length < s
          · rw [V_room' hr hf]
            have h2 := V_more (s := s) t (r :: wo S xo) xo (by simp [hwd, hrw]) (by simp [mem_wo]; intro e; subst e; exact hr hm) (by simp; omega)
            have h3 : V s t (xo :: r :: wo S xo) = V s t (r :: S) := by
              rw [V_swap]; exact V_perm t ((perm_cons_wo hd hm).symm.cons r)
            omega
          · exact le_V' hr hf hm

/-- How many keys of a list are not in another one. -/
def D : List Int → List Int → Nat
  | [], _ => 0
  | r :: t, S => if r ∈ S then D t S else 1 + D t (S ++ [r])

/-- With room for all keys each one is missed once. -/
theorem hits_all {s : Nat} : ∀ (t S : List Int), S.length + D t S ≤ s → hits (turnsL s t S) + D t S = t.length := by
  intro t
  induction t with
  | nil => intro S _; rfl
  | cons r t ih =>
    intro S hl
    unfold turnsL
    unfold D at hl ⊢
    by_cases hr : r ∈ S
    · simp only [hr, if_true] at hl ⊢
      rw [hits_cons]
      have := ih S hl
      simp only [if_true, List.length_cons]; omega
    · simp only [hr, if_false] at hl ⊢
      rw [if_neg (by omega), hits_cons]
      have := ih (S ++ [r]) (by simp; omega)
      simp only [Bool.false_eq_true, if_false, List.length_cons]; omega
end Bel
