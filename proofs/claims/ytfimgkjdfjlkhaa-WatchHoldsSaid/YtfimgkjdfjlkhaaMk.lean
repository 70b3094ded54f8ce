/- What publishing does to the watchers of a hub: plain words. -/
import Derived.Test.YtfimgkjdfjlkhaaMj
namespace Go.Proofs.Ytfimgkjdfjlkhaa
open Go.RowKit Go.Deep Go.Maps

/-- A watcher as calls see it. -/
structure Wa where
  rl : Rl
  wait : List Ev
  lost : Nat
def Wt.abs (t : Wt) : Wa := ⟨t.rl, t.wait.map (·.e), t.lost⟩
def put1 (a : Wa) (e : Ev) : Wa × Nat :=
  if a.wait.length = a.rl.room then
    if a.rl.oldest = true then (⟨a.rl, a.wait.tail ++ [e], a.lost + 1⟩, 1) else (⟨a.rl, a.wait, a.lost + 1⟩, 0)
  else (⟨a.rl, a.wait ++ [e], a.lost⟩, 1)
def pub1 (a : Wa) (e : Ev) : Wa × Nat := if a.rl.toRi.fits e = true then put1 a e else (a, 0)
def pubs (a : Wa) : List Ev → Wa × Nat
  | [] => (a, 0)
  | e :: es => ((pubs (pub1 a e).1 es).1, (pub1 a e).2 + (pubs (pub1 a e).1 es).2)
theorem put1_rl (a : Wa) (e : Ev) : (put1 a e).1.rl = a.rl := by by_cases h : a.wait.length = a.rl.room <;> by_cases h2 : a.rl.oldest = true <;> simp [put1, h, h2]
theorem pub1_rl (a : Wa) (e : Ev) : (pub1 a e).1.rl = a.rl := by unfold pub1; split; exact put1_rl a e; rfl
theorem put1_lost (a : Wa) (e : Ev) : (put1 a e).1.lost ≤ a.lost + 1 := by by_cases h : a.wait.length = a.rl.room <;> by_cases h2 : a.rl.oldest = true <;> simp [put1, h, h2]
theorem pub1_lost (a : Wa) (e : Ev) : (pub1 a e).1.lost ≤ a.lost + 1 := by unfold pub1; split; exact put1_lost a e; simp
theorem pubs_rl (es : List Ev) : ∀ a : Wa, (pubs a es).1.rl = a.rl := by
  induction es with
  | nil => intro a; rfl
  | cons e es ih => intro a; show (pubs _ es).1.rl = _; rw [ih, pub1_rl]
theorem pubs_lost (es : List Ev) : ∀ a : Wa, (pubs a es).1.lost ≤ a.lost + es.length := by
  induction es with
  | nil => intro a; exact Nat.le_refl _
  | cons e es ih =>
    intro a
    have h1 := ih (pub1 a e).1
    have h2 := pub1_lost a e
    show (pubs _ es).1.lost ≤ _
    simp only [List.length_cons]; omega
theorem pubs_snoc (es : List Ev) (e : Ev) : ∀ a : Wa, pubs a (es ++ [e]) = ((pub1 (pubs a es).1 e).1, (pubs a es).2 + (pub1 (pubs a es).1 e).2) := by
  induction es with
  | nil => intro a; simp [pubs]
  | cons x es ih =>
    intro a
    show ((pubs _ (es ++ [e])).1, _ + (pubs _ (es ++ [e])).2) = _
    rw [ih]
    simp only [pubs, Nat.add_assoc]
theorem abs_puts {B : Nat} {t t' : Wt} {e : Ev} {b : Bool} (h : PutsTo B t e t' b) (hr : t'.rl = t.rl) : t'.abs = (put1 t.abs e).1 ∧ (put1 t.abs e).2 = if b = true then 1 else 0 := by
  have hl : t.abs.wait.length = t.wait.length := by simp [Wt.abs]
  unfold PutsTo at h
  by_cases h1 : t.wait.length = t.rl.room
  · have h1' : t.abs.wait.length = t.abs.rl.room := hl.trans h1
    rw [if_pos h1] at h
    by_cases h2 : t.rl.oldest = true
    · rw [if_pos h2] at h
      obtain ⟨rfl, ⟨h', he, _, hw⟩, hll⟩ := h
      have e1 : put1 t.abs e = (⟨t.rl, (t.wait.map (·.e)).tail ++ [e], t.lost + 1⟩, 1) := by
        unfold put1; rw [if_pos h1', if_pos (show t.abs.rl.oldest = true from h2)]; rfl
      rw [e1]
      refine ⟨?_, rfl⟩
      unfold Wt.abs
      rw [hr, hw, hll]
      simp [he, List.map_tail]
    · rw [if_neg h2] at h
      obtain ⟨rfl, hw, hll⟩ := h
      have e1 : put1 t.abs e = (⟨t.rl, t.wait.map (·.e), t.lost + 1⟩, 0) := by
        unfold put1; rw [if_pos h1', if_neg (show ¬ t.abs.rl.oldest = true from h2)]; rfl
      rw [e1]
      refine ⟨?_, rfl⟩
      unfold Wt.abs
      rw [hr, hw, hll]
  · have h1' : ¬ t.abs.wait.length = t.abs.rl.room := fun e => h1 (hl.symm.trans e)
    rw [if_neg h1] at h
    obtain ⟨rfl, ⟨h', he, _, hw⟩, hll⟩ := h
    have e1 : put1 t.abs e = (⟨t.rl, t.wait.map (·.e) ++ [e], t.lost⟩, 1) := by
      unfold put1; rw [if_neg h1']; rfl
    rw [e1]
    refine ⟨?_, rfl⟩
    unfold Wt.abs
    rw [hr, hw, hll]
    simp [he]
/-- Two lists of one length, member by member. -/
def Rel (R : Sl → Sl → Prop) : List Sl → List Sl → Prop
  | [], [] => True
  | a :: l, b :: l' => R a b ∧ Rel R l l'
  | _, _ => False
theorem Rel.refl {R : Sl → Sl → Prop} (h : ∀ s, R s s) : ∀ l, Rel R l l
  | [] => trivial
  | a :: l => ⟨h a, Rel.refl h l⟩
theorem Rel.imp {R R' : Sl → Sl → Prop} : ∀ {l l' : List Sl}, (∀ s ∈ l, ∀ s', R s s' → R' s s') → Rel R l l' → Rel R' l l'
  | [], [], _, _ => trivial
  | a :: l, b :: l', h, hr => ⟨h a (by simp) b hr.1, Rel.imp (fun s hs => h s (List.mem_cons_of_mem _ hs)) hr.2⟩
  | [], _ :: _, _, hr => hr.elim
  | _ :: _, [], _, hr => hr.elim
theorem Rel.trans {R R' R2 : Sl → Sl → Prop} (h : ∀ a b c, R a b → R' b c → R2 a c) : ∀ {l l' l2 : List Sl}, Rel R l l' → Rel R' l' l2 → Rel R2 l l2
  | [], [], [], _, _ => trivial
  | a :: _, b :: _, c :: _, h1, h2 => ⟨h a b c h1.1 h2.1, Rel.trans h h1.2 h2.2⟩
  | [], _ :: _, _, h1, _ => h1.elim
  | _ :: _, [], _, h1, _ => h1.elim
  | [], [], _ :: _, _, h2 => h2.elim
  | _ :: _, _ :: _, [], _, h2 => h2.elim
theorem Rel.split {R : Sl → Sl → Prop} {s : Sl} {c : List Sl} : ∀ {a l' : List Sl}, Rel R (a ++ s :: c) l' → ∃ a' s' c', l' = a' ++ s' :: c' ∧ Rel R a a' ∧ R s s' ∧ Rel R c c'
  | [], [], h => h.elim
  | [], b :: l', h => ⟨[], b, l', rfl, trivial, h.1, h.2⟩
  | x :: a, [], h => h.elim
  | x :: a, b :: l', h => by
    obtain ⟨a', s', c', rfl, h1, h2, h3⟩ := Rel.split (a := a) h.2
    exact ⟨b :: a', s', c', rfl, ⟨h.1, h1⟩, h2, h3⟩
theorem Rel.join {R : Sl → Sl → Prop} {s s' : Sl} {c c' : List Sl} : ∀ {a a' : List Sl}, Rel R a a' → R s s' → Rel R c c' → Rel R (a ++ s :: c) (a' ++ s' :: c')
  | [], [], _, h2, h3 => ⟨h2, h3⟩
  | _ :: _, _ :: _, h1, h2, h3 => ⟨h1.1, Rel.join h1.2 h2 h3⟩
  | [], _ :: _, h1, _, _ => h1.elim
  | _ :: _, [], h1, _, _ => h1.elim
theorem Rel.mem {R : Sl → Sl → Prop} : ∀ {l l' : List Sl}, Rel R l l' → ∀ s' ∈ l', ∃ s ∈ l, R s s'
  | [], [], _, s', h => by cases h
  | a :: l, b :: l', hr, s', h => by
    rcases List.mem_cons.1 h with rfl | h
    · exact ⟨a, by simp, hr.1⟩
    · obtain ⟨s, hs, hR⟩ := Rel.mem hr.2 s' h
      exact ⟨s, List.mem_cons_of_mem _ hs, hR⟩
  | [], _ :: _, hr, _, _ => hr.elim
  | _ :: _, [], hr, _, _ => hr.elim
/-- The same watcher, after some events. -/
def After (es : List Ev) (s s' : Sl) : Prop := s'.id = s.id ∧ s'.g = s.g ∧ s'.t.abs = (pubs s.t.abs es).1
theorem After.zero (s : Sl) : After [] s s := ⟨rfl, rfl, rfl⟩
theorem After.snoc {es : List Ev} {e : Ev} {s s1 s2 : Sl} (h : After es s s1) (h' : After [e] s1 s2) : After (es ++ [e]) s s2 := by
  obtain ⟨a1, a2, a3⟩ := h
  obtain ⟨b1, b2, b3⟩ := h'
  refine ⟨b1.trans a1, b2.trans a2, b3.trans ?_⟩
  rw [pubs_snoc, a3]
  rfl
/-- How often some events are taken in, by all watchers together. -/
def taken (l : List Sl) (es : List Ev) : Nat := (l.map fun s => (pubs s.t.abs es).2).sum
theorem taken_snoc {es : List Ev} {e : Ev} : ∀ {l l1 : List Sl}, Rel (After es) l l1 → taken l (es ++ [e]) = taken l es + taken l1 [e]
  | [], [], _ => rfl
  | a :: l, b :: l1, h => by
    have ih := taken_snoc (e := e) h.2
    unfold taken at ih ⊢
    simp only [List.map_cons, List.sum_cons]
    rw [ih, pubs_snoc, h.1.2.2]
    have : (pubs (pubs a.t.abs es).1 [e]).2 = (pub1 (pubs a.t.abs es).1 e).2 := by simp [pubs]
    rw [this]
    show _ + _ + _ = _
    omega
  | [], _ :: _, h => h.elim
  | _ :: _, [], h => h.elim
/-- One event, in the midst of the range: those watchers that are still to come are as they were. -/
def Mid (e : Ev) (left : Int → Bool) (s s' : Sl) : Prop := if left s.id = true then s' = s else After [e] s s'
def midTaken (l : List Sl) (e : Ev) (left : Int → Bool) : Nat := (l.map fun s => if left s.id = true then 0 else (pubs s.t.abs [e]).2).sum
theorem midTaken_ext {e : Ev} {left left' : Int → Bool} {l : List Sl} (h : ∀ s ∈ l, left s.id = left' s.id) : midTaken l e left = midTaken l e left' := by
  unfold midTaken
  congr 1
  refine List.map_congr_left fun s hs => ?_
  rw [h s hs]
theorem midTaken_strike {e : Ev} {left : Int → Bool} {a c : List Sl} {s : Sl} (hid : ∀ x ∈ a ++ c, x.id ≠ s.id) (hl : left s.id = true) :
    midTaken (a ++ s :: c) e (fun k => left k && !(k == s.id)) = midTaken (a ++ s :: c) e left + (pubs s.t.abs [e]).2 := by
  have h1 : midTaken a e (fun k => left k && !(k == s.id)) = midTaken a e left := midTaken_ext (fun x hx => by
    have : (x.id == s.id) = false := by simp; exact hid x (List.mem_append_left _ hx)
    simp [this])
  have h2 : midTaken c e (fun k => left k && !(k == s.id)) = midTaken c e left := midTaken_ext (fun x hx => by
    have : (x.id == s.id) = false := by simp; exact hid x (List.mem_append_right _ hx)
    simp [this])
  unfold midTaken at h1 h2 ⊢
  simp only [List.map_append, List.map_cons, List.sum_append, List.sum_cons]
  rw [h1, h2]
  simp [hl]
  omega
end Go.Proofs.Ytfimgkjdfjlkhaa
