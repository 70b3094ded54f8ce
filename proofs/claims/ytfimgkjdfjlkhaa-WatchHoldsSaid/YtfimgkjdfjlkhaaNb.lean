/- What publishing keeps of the events that fit: plain words. -/
import Derived.Test.YtfimgkjdfjlkhaaNa
namespace Go.Proofs.Ytfimgkjdfjlkhaa
open Go.RowKit Go.Deep Go.Maps

/-- A watcher's rule is this one. -/
structure RlIs (rl : Rl) (r : Ri) : Prop where
  pre : rl.pre = r.pre
  kinds : rl.kinds = r.kinds
  room : rl.room = r.room.toNat
  oldest : rl.oldest = r.oldest
theorem RlIs.fits {rl : Rl} {r : Ri} (h : RlIs rl r) (e : Ev) : rl.toRi.fits e = r.fits e := by
  show fitsB rl.pre rl.kinds e.key e.kind = fitsB r.pre r.kinds e.key e.kind
  rw [h.pre, h.kinds]
theorem put1_wait (a a' : Wa) (e : Ev) (hr : a.rl.room = a'.rl.room) (ho : a.rl.oldest = a'.rl.oldest) (hw : a.wait = a'.wait) : (put1 a e).1.wait = (put1 a' e).1.wait := by
  unfold put1
  rw [hr, ho, hw]
  split
  · split
    · rfl
    · rfl
  · rfl
theorem pubs_wait_ext {r : Ri} (es : List Ev) : ∀ (a a' : Wa), RlIs a.rl r → RlIs a'.rl r → a.wait = a'.wait → (pubs a es).1.wait = (pubs a' es).1.wait := by
  induction es with
  | nil => intro a a' _ _ hw; exact hw
  | cons e es ih =>
    intro a a' h h' hw
    show (pubs (pub1 a e).1 es).1.wait = (pubs (pub1 a' e).1 es).1.wait
    refine ih _ _ (by rw [pub1_rl]; exact h) (by rw [pub1_rl]; exact h') ?_
    unfold pub1
    rw [h.fits, h'.fits]
    split
    · exact put1_wait a a' e (h.room.trans h'.room.symm) (h.oldest.trans h'.oldest.symm) hw
    · exact hw
/-- The events that fit. -/
def fitting (r : Ri) (es : List Ev) : List Ev := es.filter fun e => r.fits e
theorem pub1_sum {a : Wa} {r : Ri} (h : RlIs a.rl r) (h1 : 1 ≤ a.rl.room) (e : Ev) : (pub1 a e).1.wait.length + (pub1 a e).1.lost = a.wait.length + a.lost + (fitting r [e]).length ∧ (pub1 a e).1.wait.Sublist (a.wait ++ fitting r [e]) := by
  unfold pub1 fitting
  rw [h.fits]
  cases hf : r.fits e with
  | false => simp [hf]
  | true =>
    have e1 : ([e].filter fun e => r.fits e) = [e] := by simp [hf]
    rw [if_pos rfl, e1]
    unfold put1
    by_cases hfull : a.wait.length = a.rl.room
    · rw [if_pos hfull]
      by_cases ho : a.rl.oldest = true
      · rw [if_pos ho]
        refine ⟨?_, (List.tail_sublist _).append (List.Sublist.refl _)⟩
        simp
        omega
      · rw [if_neg ho]
        refine ⟨?_, List.sublist_append_left _ _⟩
        simp
        omega
    · rw [if_neg hfull]
      refine ⟨?_, List.Sublist.refl _⟩
      simp
      omega
theorem pubs_sum {r : Ri} (es : List Ev) : ∀ (a : Wa), RlIs a.rl r → 1 ≤ a.rl.room → (pubs a es).1.wait.length + (pubs a es).1.lost = a.wait.length + a.lost + (fitting r es).length ∧ (pubs a es).1.wait.Sublist (a.wait ++ fitting r es) := by
  induction es with
  | nil => intro a _ _; simp [pubs, fitting]
  | cons e es ih =>
    intro a h h1
    obtain ⟨p1, p2⟩ := pub1_sum h h1 e
    obtain ⟨q1, q2⟩ := ih (pub1 a e).1 (by rw [pub1_rl]; exact h) (by rw [pub1_rl]; exact h1)
    have e1 : fitting r (e :: es) = fitting r [e] ++ fitting r es := by
      unfold fitting
      rw [show e :: es = [e] ++ es from rfl, List.filter_append]
    refine ⟨?_, ?_⟩
    · show (pubs (pub1 a e).1 es).1.wait.length + (pubs (pub1 a e).1 es).1.lost = _
      rw [q1, p1, e1, List.length_append]
      omega
    · show (pubs (pub1 a e).1 es).1.wait.Sublist _
      rw [e1, ← List.append_assoc]
      exact q2.trans (p2.append (List.Sublist.refl _))
/-- One step of the search for an event that was taken. -/
theorem find_here {x : Ev} {rest ys : List Ev} {y : Ev} (h : (x :: rest).Sublist (y :: ys)) : rest.Sublist ys := by
  cases h with
  | cons _ h => exact (List.sublist_cons_self _ _).trans h
  | cons_cons _ h => exact h
theorem find_next {x : Ev} {rest ys : List Ev} {y : Ev} (h : (x :: rest).Sublist (y :: ys)) (he : eqE y x = false) : (x :: rest).Sublist ys := by
  cases h with
  | cons _ h => exact h
  | cons_cons _ h => rw [eqE_self] at he; cases he
theorem drop_cons {es : List Ev} {f : Nat} (h : f < es.length) : es.drop f = es[f] :: es.drop (f + 1) := List.drop_eq_getElem_cons h
end Go.Proofs.Ytfimgkjdfjlkhaa
