/- Two hubs side by side, and the events that were published: what the walk of WatchHolds keeps. -/
import Derived.Test.YtfimgkjdfjlkhaaNb
namespace Go.Proofs.Ytfimgkjdfjlkhaa
open Go.RowKit Go.Deep Go.Maps

structure Two (W0 wr : World) (hb1 hb2 : Nat) (m1 : Option Nat) (n1 : Nat) (l1 : List Sl) (m2 : Option Nat) (n2 : Nat) (l2 : List Sl) : Prop where
  h1 : HubAt wr W0.heap.size hb1 m1 n1 l1
  h2 : HubAt wr W0.heap.size hb2 m2 n2 l2
  dis : ∀ k ∈ hubO hb1 m1 l1, k ∉ hubO hb2 m2 l2
  below : Below W0.heap.size W0 wr
section
variable {W0 wr w' : World} {hb1 hb2 n1 n2 n' : Nat} {m1 m2 m' : Option Nat} {l1 l2 l' : List Sl}
theorem Two.step1 (h : Two W0 wr hb1 hb2 m1 n1 l1 m2 n2 l2) (hT : HubTo wr w' W0.heap.size hb1 m1 l1 m' n' l') : Two W0 w' hb1 hb2 m' n' l' m2 n2 l2 where
  h1 := hT.hub
  h2 := h.h2.chg hT.chg h.dis h.h1.noRow
  dis := fun k hk => by
    rcases hT.own k hk with e | e
    · exact h.dis k e
    · exact fun e2 => by have := h.h2.lt k e2; omega
  below := h.below.trans ((hT.wide h.h1).below h.h1 h.below.size)
theorem Two.step2 (h : Two W0 wr hb1 hb2 m1 n1 l1 m2 n2 l2) (hT : HubTo wr w' W0.heap.size hb2 m2 l2 m' n' l') : Two W0 w' hb1 hb2 m1 n1 l1 m' n' l' where
  h1 := h.h1.chg hT.chg (fun k hk e => h.dis k e hk) h.h2.noRow
  h2 := hT.hub
  dis := fun k hk e2 => by
    rcases hT.own k e2 with e | e
    · exact h.dis k hk e
    · have := h.h1.lt k hk; omega
  below := h.below.trans ((hT.wide h.h2).below h.h2 h.below.size)
theorem Two.free {O : List Nat} (h : Two W0 wr hb1 hb2 m1 n1 l1 m2 n2 l2) (hc : Chg O wr w') (h1 : ∀ k ∈ O, k ∉ hubO hb1 m1 l1 ∧ k ∉ hubO hb2 m2 l2 ∧ NoRow wr k ∧ W0.heap.size ≤ k) : Two W0 w' hb1 hb2 m1 n1 l1 m2 n2 l2 where
  h1 := h.h1.chg hc (fun k hk => (h1 k hk).1) (fun k hk => (h1 k hk).2.2.1)
  h2 := h.h2.chg hc (fun k hk => (h1 k hk).2.1) (fun k hk => (h1 k hk).2.2.1)
  dis := h.dis
  below := h.below.trans ⟨hc.os, hc.tape, hc.output, hc.size, fun k hk => hc.block k (by have := h.below.size; omega) (fun e => by have := (h1 k e).2.2.2; omega)⟩
theorem Two.on (h : Two W0 wr hb1 hb2 m1 n1 l1 m2 n2 l2) (hb : Below wr.heap.size wr w') : Two W0 w' hb1 hb2 m1 n1 l1 m2 n2 l2 := h.free (Chg.below hb []) (fun k hk => by cases hk)
end
/-- The events that were published and fit: a row of the law's own. -/
structure AllAt (W0 wr : World) (O1 O2 : List Nat) (x : Value) (hs : List Hv) : Prop where
  own : wr.ownsRow W0.heap.size 30 6 x hs.length (ecells hs)
  far : ∀ k, x.ownBlock = some k → k ∉ O1 ∧ k ∉ O2
  each : ∀ h ∈ hs, h.Ok W0 W0.heap.size
section
variable {W0 wr w' : World} {O1 O2 O' : List Nat} {x : Value} {hs : List Hv}
theorem AllAt.step1 (h : AllAt W0 wr O1 O2 x hs) (hc : Chg O1 wr w') (ho : ∀ k ∈ O', k ∈ O1 ∨ wr.heap.size ≤ k) : AllAt W0 w' O' O2 x hs where
  own := own_same h.own fun k hk => hc.block k (h.own.lt k hk).2 (h.far k hk).1
  far := fun k hk => ⟨fun e => by
    rcases ho k e with e | e
    · exact (h.far k hk).1 e
    · have := (h.own.lt k hk).2; omega, (h.far k hk).2⟩
  each := h.each
theorem AllAt.step2 (h : AllAt W0 wr O1 O2 x hs) (hc : Chg O2 wr w') (ho : ∀ k ∈ O', k ∈ O2 ∨ wr.heap.size ≤ k) : AllAt W0 w' O1 O' x hs where
  own := own_same h.own fun k hk => hc.block k (h.own.lt k hk).2 (h.far k hk).2
  far := fun k hk => ⟨(h.far k hk).1, fun e => by
    rcases ho k e with e | e
    · exact (h.far k hk).2 e
    · have := (h.own.lt k hk).2; omega⟩
  each := h.each
theorem AllAt.on (h : AllAt W0 wr O1 O2 x hs) (hb : Below wr.heap.size wr w') : AllAt W0 w' O1 O2 x hs := ⟨own_step h.own hb, h.far, h.each⟩
theorem AllAt.evsAt {A : Option Addr} {c : Nat} (h : AllAt W0 wr O1 O2 (.slice A hs.length c) hs) (hb : Below W0.heap.size W0 wr) : EvsAt wr wr.heap.size A hs.length hs :=
  ⟨Reads.of_own h.own, fun x hx => ((h.each x hx).below hb).more hb.size⟩
end
/-- What is counted. -/
structure Cnt (r : Ri) (s1 : Sl) (b1 : List Sl) (s2 : Sl) (E : List Ev) (tk fr cnt : Nat) : Prop where
  r1 : RlIs s1.t.rl r
  r2 : RlIs s2.t.rl r
  id1 : s1.id = 0
  id2 : s2.id = 0
  same : evs s1.t.wait = evs s2.t.wait
  sum : tk + s1.t.wait.length + s1.t.lost = E.length
  le : fr ≤ E.length
  sub : (evs s1.t.wait).Sublist (E.drop fr)
  few : E.length ≤ 20 * cnt
  lost : ∀ s ∈ s1 :: b1, s.t.lost ≤ 20 * cnt
  lost2 : s2.t.lost ≤ 20 * cnt
  kl : ∀ s ∈ s1 :: b1, s.t.rl.kinds.length ≤ 10
  kl2 : s2.t.rl.kinds.length ≤ 10
theorem After.lost {es : List Ev} {s s' : Sl} (h : After es s s') : s'.t.lost ≤ s.t.lost + es.length := by
  have h1 := pubs_lost es s.t.abs
  have h2 : s'.t.lost = (pubs s.t.abs es).1.lost := congrArg Wa.lost h.2.2
  rw [h2]
  exact h1
theorem After.rl {es : List Ev} {s s' : Sl} (h : After es s s') : s'.t.rl = s.t.rl := by
  have h2 : s'.t.rl = (pubs s.t.abs es).1.rl := congrArg Wa.rl h.2.2
  rw [h2, pubs_rl]; rfl
theorem After.wait {es : List Ev} {s s' : Sl} (h : After es s s') : evs s'.t.wait = (pubs s.t.abs es).1.wait := congrArg Wa.wait h.2.2
theorem evs_len (hs : List Hv) : (evs hs).length = hs.length := by simp [evs]
theorem Cnt.pub {r : Ri} {s1 s1' s2 s2' : Sl} {b1 b1' : List Sl} {E es : List Ev} {tk fr cnt : Nat} (h : Cnt r s1 b1 s2 E tk fr cnt) (a1 : After es s1 s1') (ab : Rel (After es) b1 b1') (a2 : After es s2 s2') (hl : es.length ≤ 20) (hr : 1 ≤ s1.t.rl.room) :
    Cnt r s1' b1' s2' (E ++ fitting r es) tk fr (cnt + 1) := by
  obtain ⟨p1, p2⟩ := pubs_sum (r := r) es s1.t.abs h.r1 hr
  have hfl : (fitting r es).length ≤ es.length := List.length_filter_le _ _
  have hw := a1.wait
  have hlo : s1'.t.lost = (pubs s1.t.abs es).1.lost := congrArg Wa.lost a1.2.2
  have hwl : s1'.t.wait.length = (pubs s1.t.abs es).1.wait.length := by rw [← hw, evs_len]
  have hal : s1.t.abs.wait.length = s1.t.wait.length := by simp [Wt.abs]
  have hall : s1.t.abs.lost = s1.t.lost := rfl
  have hsum := h.sum
  have hle := h.le
  have hfew := h.few
  refine ⟨by rw [a1.rl]; exact h.r1, by rw [a2.rl]; exact h.r2, a1.1.trans h.id1, a2.1.trans h.id2, ?_, ?_, ?_, ?_, ?_, ?_, ?_, ?_, by rw [a2.rl]; exact h.kl2⟩
  · rw [hw, a2.wait]
    exact pubs_wait_ext es _ _ h.r1 h.r2 h.same
  · rw [hwl, hlo, List.length_append]
    omega
  · rw [List.length_append]; omega
  · rw [hw, List.drop_append_of_le_length h.le]
    exact p2.trans (h.sub.append (List.Sublist.refl _))
  · rw [List.length_append]; omega
  · intro s hs
    rcases List.mem_cons.1 hs with rfl | hs
    · have := a1.lost
      have := h.lost s1 (by simp)
      omega
    · obtain ⟨x, hx, ha⟩ := ab.mem s hs
      have := ha.lost
      have := h.lost x (List.mem_cons_of_mem _ hx)
      omega
  · have := a2.lost
    have := h.lost2
    omega
  · intro s hs
    rcases List.mem_cons.1 hs with rfl | hs
    · rw [a1.rl]; exact h.kl s1 (by simp)
    · obtain ⟨x, hx, ha⟩ := ab.mem s hs
      rw [ha.rl]; exact h.kl x (List.mem_cons_of_mem _ hx)
theorem Cnt.take {r : Ri} {s1 s2 : Sl} {t1 t2 : Wt} {b1 : List Sl} {E : List Ev} {tk fr cnt k fr' : Nat} (h : Cnt r s1 b1 s2 E tk fr cnt) (e1 : t1.rl = s1.t.rl) (e2 : t2.rl = s2.t.rl) (w1 : t1.wait = s1.t.wait.drop k) (w2 : t2.wait = s2.t.wait.drop k) (lo1 : t1.lost = s1.t.lost) (lo2 : t2.lost = s2.t.lost)
    (hk : k ≤ s1.t.wait.length) (hf : fr' ≤ E.length) (hs : ((evs s1.t.wait).drop k).Sublist (E.drop fr')) : Cnt r (s1.with_ t1) b1 (s2.with_ t2) E (tk + k) fr' (cnt + 1) := by
  have hsum := h.sum
  have hfew := h.few
  have hd : ∀ l : List Hv, evs (l.drop k) = (evs l).drop k := fun l => by unfold evs; rw [List.map_drop]
  refine ⟨by show RlIs t1.rl r; rw [e1]; exact h.r1, by show RlIs t2.rl r; rw [e2]; exact h.r2, h.id1, h.id2, ?_, ?_, hf, ?_, by omega, ?_, ?_, ?_, by show t2.rl.kinds.length ≤ 10; rw [e2]; exact h.kl2⟩
  · show evs t1.wait = evs t2.wait
    rw [w1, w2, hd, hd, h.same]
  · show tk + k + t1.wait.length + t1.lost = _
    rw [w1, lo1, List.length_drop]
    omega
  · show (evs t1.wait).Sublist _
    rw [w1, hd]
    exact hs
  · intro s hs
    rcases List.mem_cons.1 hs with rfl | hs
    · show t1.lost ≤ _
      rw [lo1]
      have := h.lost s1 (by simp)
      omega
    · have := h.lost s (List.mem_cons_of_mem _ hs)
      omega
  · show t2.lost ≤ _
    rw [lo2]
    have := h.lost2
    omega
  · intro s hs
    rcases List.mem_cons.1 hs with rfl | hs
    · show t1.rl.kinds.length ≤ 10
      rw [e1]; exact h.kl s1 (by simp)
    · exact h.kl s (List.mem_cons_of_mem _ hs)
theorem Cnt.more {r : Ri} {s1 s2 : Sl} {b1 : List Sl} {E : List Ev} {tk fr cnt : Nat} (h : Cnt r s1 b1 s2 E tk fr cnt) : Cnt r s1 b1 s2 E tk fr (cnt + 1) :=
  { h with
    few := by have := h.few; omega
    lost := fun s hs => by have := h.lost s hs; omega
    lost2 := by have := h.lost2; omega }
end Go.Proofs.Ytfimgkjdfjlkhaa
