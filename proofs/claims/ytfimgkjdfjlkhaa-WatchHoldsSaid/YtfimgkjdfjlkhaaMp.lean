/- A hub and the values of its events, changed; 'adds' and 'lost'. -/
import Derived.Test.YtfimgkjdfjlkhaaMo
namespace Go.Proofs.Ytfimgkjdfjlkhaa
open Go.RowKit Go.Deep Go.Maps

/-- All blocks of a hub that calls may change. -/
def hubA (hb : Nat) (m : Option Nat) (l : List Sl) : List Nat := hubO hb m l ++ vblks l
structure HubW (w w' : World) (base hb : Nat) (m : Option Nat) (l : List Sl) (m' : Option Nat) (n' : Nat) (l' : List Sl) : Prop where
  hub : HubAt w' base hb m' n' l'
  chg : Chg (hubA hb m l) w w'
  own : ∀ k ∈ hubA hb m' l', k ∈ hubA hb m l ∨ w.heap.size ≤ k
  sep : (vblks l).Nodup → (vblks l').Nodup
theorem mem_hubA {hb k : Nat} {m : Option Nat} {l : List Sl} : k ∈ hubA hb m l ↔ k ∈ hubO hb m l ∨ k ∈ vblks l := by unfold hubA; exact List.mem_append
section
variable {w w1 w2 : World} {base hb n n1 n2 : Nat} {m m1 m2 : Option Nat} {l l1 l2 : List Sl}
theorem HubAt.geA (h : HubAt w base hb m n l) : ∀ k ∈ hubA hb m l, base ≤ k ∧ k < w.heap.size := fun k hk => by
  rcases mem_hubA.1 hk with e | e
  · exact ⟨h.ge k e, h.lt k e⟩
  · exact h.vlt k e
theorem HubTo.wide (h : HubTo w w1 base hb m l m1 n1 l1) (h0 : HubAt w base hb m n l) : HubW w w1 base hb m l m1 n1 l1 where
  hub := h.hub
  chg := h.chg.mono fun _ hk => mem_hubA.2 (Or.inl hk)
  own := fun k hk => by
    rcases mem_hubA.1 hk with e | e
    · exact (h.own k e).imp (fun e => mem_hubA.2 (Or.inl e)) id
    · exact (h.vals.1 k e).imp (fun e => mem_hubA.2 (Or.inr e)) id
  sep := fun hn => h.vals.2 hn fun k hk => (h0.vlt k hk).2
theorem HubW.trans (h : HubW w w1 base hb m l m1 n1 l1) (h' : HubW w1 w2 base hb m1 l1 m2 n2 l2) : HubW w w2 base hb m l m2 n2 l2 where
  hub := h'.hub
  chg := h.chg.trans h'.chg h.own
  own := fun k hk => by
    rcases h'.own k hk with e | e
    · exact h.own k e
    · exact Or.inr (Nat.le_trans h.chg.size e)
  sep := fun hn => h'.sep (h.sep hn)
theorem HubW.of_below (h : HubAt w base hb m n l) (hb1 : Below w.heap.size w w1) : HubW w w1 base hb m l m n l := (HubTo.of_below h hb1).wide h
theorem HubW.below (h : HubW w w1 base hb m l m1 n1 l1) (h0 : HubAt w base hb m n l) (hbase : base ≤ w.heap.size) : Below base w w1 :=
  ⟨h.chg.os, h.chg.tape, h.chg.output, h.chg.size, fun k hk => h.chg.block k (by omega) (fun e => by have := (h0.geA k e).1; omega)⟩
end
theorem HubAt.new (w : World) (base : Nat) (hb : base ≤ w.heap.size) : HubAt (w.alloc (.cells #[.map none] 36)) base w.heap.size none 0 [] where
  blk := Blk.new w 36 _
  bmap := fun b e => by cases e
  nomap := fun _ => rfl
  wts := fun s hs => by cases hs
  ids := List.Pairwise.nil
  apart := List.Pairwise.nil
  hbase := hb
  range := fun s hs => by cases hs
/-- A watcher, where rows of bytes that are not its own have changed. -/
theorem WtAt.chg3 {w w1 : World} {base g : Nat} {t : Wt} {O : List Nat} (ht : WtAt w base g t) (h : Chg O w w1) (hg : g ∉ O) (hr : t.rn ≠ 0 → t.rg ∉ O) (hv : ∀ k ∈ O, k ∉ wb t.wait) (hk : ∀ k ∈ O, ∀ cs, w.heap[k]? ≠ some (.cells cs 25 (0, 0))) : WtAt w1 base g t :=
  { ht with
    blk := h.blk ht.blk hg
    ring := fun hn => by
      obtain ⟨cs, hb, hi⟩ := ht.ring hn
      exact ⟨cs, h.blk hb (hr hn), hi⟩
    own := fun x hx => by
      have ho := ht.own x hx
      refine ⟨own_same ho.1 (fun k hk2 => h.block k (ho.1.lt k hk2).2 (fun e => hv k e ?_)), ho.2⟩
      refine List.mem_filterMap.2 ⟨x, hx, ?_⟩
      cases e2 : x.A with
      | none => rw [e2] at hk2; cases hk2
      | some a => rw [e2] at hk2; exact hk2
    kinds := ht.kinds.imp id (fun ho => own_same ho (fun k hk2 => h.block k (ho.lt k hk2).2 (fun e => by
      obtain ⟨cs, hh⟩ := own_row ho hk2
      exact hk k e cs hh))) }
theorem mem_vblks {l : List Sl} {s : Sl} {k : Nat} (hs : s ∈ l) (hk : k ∈ wb s.t.wait) : k ∈ vblks l := List.mem_flatMap.2 ⟨s, hs, hk⟩
theorem HubAt.vchg {w w1 : World} {base hb n : Nat} {m : Option Nat} {l : List Sl} {O : List Nat} (h : HubAt w base hb m n l) (hc : Chg O w w1) (hd : ∀ k ∈ O, k ∉ hubA hb m l) (hO : ∀ k ∈ O, ∀ cs, w.heap[k]? ≠ some (.cells cs 25 (0, 0))) : HubAt w1 base hb m n l where
  blk := hc.blk h.blk (fun e => hd hb e (mem_hubA.2 (Or.inl (mem_hubO.2 (Or.inl rfl)))))
  bmap := fun b hb' => by
    obtain ⟨h1, h2⟩ := h.bmap b hb'
    exact ⟨h1.at_ (hc.block b h1.lt (fun e => hd b e (mem_hubA.2 (Or.inl (mem_hubO.2 (Or.inr (Or.inl hb'))))))), h2⟩
  nomap := h.nomap
  wts := fun s hs => by
    obtain ⟨h1, h2, h3, h4, h5⟩ := h.wts s hs
    exact ⟨h1.chg3 hc (fun e => hd _ e (mem_hubA.2 (Or.inl (mem_hubO.2 (Or.inr (Or.inr ⟨s, hs, Or.inl rfl⟩)))))) (fun _ e => hd _ e (mem_hubA.2 (Or.inl (mem_hubO.2 (Or.inr (Or.inr ⟨s, hs, Or.inr rfl⟩))))))
      (fun k hk e => hd k hk (mem_hubA.2 (Or.inr (mem_vblks hs e)))) hO, h2, h3, Nat.lt_of_lt_of_le h4 hc.size, h5⟩
  ids := h.ids
  apart := h.apart
  hbase := h.hbase
  range := h.range
theorem added.past {w w1 w' : World} {base hb n : Nat} {m : Option Nat} {l : List Sl} {r : Ri} {e : Ending} (h : HubAt w base hb m n l) (hb1 : Below w.heap.size w w1) (ha : added w1 base hb n m l r e w') : added w base hb n m l r e w' := by
  rcases ha with ⟨a, b, c⟩ | ⟨a, b, c, d⟩ | ⟨a, b, k, b', g, c, n', A, h1, h2, h3, h4, h5⟩
  · exact Or.inl ⟨a, b, hb1.trans (c.mono hb1.size)⟩
  · exact Or.inr (Or.inl ⟨a, b, c, hb1.trans (d.mono hb1.size)⟩)
  · exact Or.inr (Or.inr ⟨a, b, k, b', g, c, n', A, h1, h2, h3, (HubTo.of_below h hb1).trans h4, h5⟩)
theorem added.pair {w w' : World} {base hb n : Nat} {m : Option Nat} {l : List Sl} {r : Ri} {e : Ending} (ha : added w base hb n m l r e w') : ∃ k q : Int, e = .returned (.tuple #[.int .i64 k, .int .i64 q]) := by
  rcases ha with ⟨_, b, _⟩ | ⟨_, _, c, _⟩ | ⟨_, _, k, _, _, _, _, _, h1, _⟩
  · exact ⟨_, _, b⟩
  · exact ⟨_, _, c⟩
  · exact ⟨_, _, h1⟩
/-- What 'adds' answers. -/
def addsTo (w : World) (base hb n : Nat) (m : Option Nat) (l : List Sl) (r : Ri) (id no : Int) (e : Ending) (w' : World) : Prop :=
  ∃ k q : Int, e = .returned (.bool (k == id && q == no)) ∧ added w base hb n m l r (.returned (.tuple #[.int .i64 k, .int .i64 q])) w'
set_option maxHeartbeats 1000000 in
theorem adds_any (w : World) (base hb n : Nat) (m : Option Nat) (l : List Sl) (r : Ri) (id no : Int) (h : HubAt w base hb m n l) (hk : KindsAt w r) (hn : r.kinds.length ≤ 1000000) (hbase : base ≤ w.heap.size) (hnn : n ≤ 1000000)
    (h0 : r.kA = none → r.kinds.length = 0 ∧ r.kc = 0) (hap : 0 < r.kinds.length → ∀ a, r.kA = some a → a.block ≠ hb) :
    Calls Try.prog 11 #[.pointer (some ⟨hb, 0, none⟩), r.v, .int .i64 id, .int .i64 no] w (addsTo w base hb n m l r id no) := by
  have hW := (Below.refl _ w).alloc (Nat.le_refl _) (.cells r.cells 24)
  have HA := Lib.hid ((add_any (w.alloc (.cells r.cells 24)) base hb n m l r (h.below hW) (hk.below hW) hn (Nat.le_trans hbase hW.size) hnn h0 hap).mono fun e w' ha => added.past h hW ha)
  clear h hk hn hbase hnn h0 hap hW
  obtain ⟨p, kinds, room, oldest, kA, kc⟩ := r
  simp only [Ri.v, Ri.cells] at HA ⊢
  go_enter Try.func11, Try.ntmps11
  go_wp2_with fail
  refine HA.out.mono ?_
  intro e w' ha
  obtain ⟨k, q, rfl⟩ := ha.pair
  have HA2 := Lib.hid ha
  clear ha HA
  by_cases h1 : (k == id) = true
  · go_wp2
    go_ret
    exact ⟨k, q, ret_bool (by simp [h1]), HA2.out⟩
  · rw [Bool.not_eq_true] at h1
    go_wp2
    go_ret
    exact ⟨k, q, ret_bool (by simp [h1]), HA2.out⟩
set_option maxHeartbeats 1000000 in
theorem lostL_yes (w : World) (base hb n : Nat) (m : Option Nat) (l : List Sl) (s : Sl) (q : Int) (h : HubAt w base hb m n l) (hs : s ∈ l) :
    Calls Try.prog 14 #[.pointer (some ⟨hb, 0, none⟩), .int .i64 s.id, .int .i64 q] w fun e w' => e = .returned (.bool ((s.t.lost : Int) == q)) ∧ w = w' := by
  have HF := Lib.hid (lost_yes w base hb n m l s h hs)
  clear h hs
  generalize s.id = k at *
  generalize s.t.lost = z at *
  by_cases h1 : ((z : Int) == q) = true
  · go_enter Try.func14, Try.ntmps14
    go_wp2_with fail
    refine HF.out.mono ?_
    rintro e w' ⟨rfl, rfl⟩
    go_wp2
    go_ret
    exact ⟨ret_bool (by simp [h1]), rfl⟩
  · rw [Bool.not_eq_true] at h1
    go_enter Try.func14, Try.ntmps14
    go_wp2_with fail
    refine HF.out.mono ?_
    rintro e w' ⟨rfl, rfl⟩
    go_wp2
    go_ret
    exact ⟨ret_bool (by simp [h1]), rfl⟩
end Go.Proofs.Ytfimgkjdfjlkhaa
