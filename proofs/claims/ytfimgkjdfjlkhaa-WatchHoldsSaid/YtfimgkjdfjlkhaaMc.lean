/- A hub in memory; 'find' and 'Lost'. Numbers of watchers are from 0 to 63. -/
import Derived.Test.YtfimgkjdfjlkhaaMb
namespace Go.Proofs.Ytfimgkjdfjlkhaa
open Go.RowKit Go.Deep Go.Maps

/-- Block k is no row of bytes and no row of kinds. -/
def NoRow (w : World) (k : Nat) : Prop := ∀ cs, w.heap[k]? ≠ some (.cells cs 5 (0, 0)) ∧ w.heap[k]? ≠ some (.cells cs 25 (0, 0))
theorem NoRow.blk {w : World} {k : Nat} {ty : TypeId} {cs : Array Value} (h : Blk w k ty cs) (h5 : ty ≠ 5) (h25 : ty ≠ 25) : NoRow w k := fun cs' => by
  unfold Blk at h
  rw [h]
  constructor
  · intro e; injection e with e; injection e with _ e; exact h5 e
  · intro e; injection e with e; injection e with _ e; exact h25 e
theorem NoRow.map {w : World} {b n c : Nat} {F : Int → Option Nat} (h : MapIs w b n F c) : NoRow w b := fun cs' => by
  obtain ⟨D, ⟨es, clock, hh, _⟩, _⟩ := h
  rw [hh]
  constructor <;> (intro e; injection e with e; cases e)
theorem own_row {w : World} {base e size n g : Nat} {v : Value} {xs : List Value} (h : w.ownsRow base e size v n xs) (hg : v.ownBlock = some g) : ∃ cs, w.heap[g]? = some (.cells cs e (0, 0)) := by
  rcases h.2 with ⟨rfl, _⟩ | ⟨g', cap, cur, rfl, _, hh, _⟩
  · cases hg
  · simp only [Value.ownBlock, Option.some.injEq] at hg
    subst hg
    exact ⟨cur, hh⟩
theorem WtAt.chg2 {w w1 : World} {base g : Nat} {t : Wt} {O : List Nat} (ht : WtAt w base g t) (h : Chg O w w1) (hg : g ∉ O) (hr : t.rn ≠ 0 → t.rg ∉ O) (hO : ∀ k ∈ O, NoRow w k) : WtAt w1 base g t :=
  { ht with
    blk := h.blk ht.blk hg
    ring := fun hn => by
      obtain ⟨cs, hb, hi⟩ := ht.ring hn
      exact ⟨cs, h.blk hb (hr hn), hi⟩
    own := fun x hx => by
      have ho := ht.own x hx
      refine ⟨own_same ho.1 (fun k hk => h.block k (ho.1.lt k hk).2 (fun e => ?_)), ho.2⟩
      obtain ⟨cs, hh⟩ := own_row ho.1 hk
      exact (hO k e cs).1 hh
    kinds := ht.kinds.imp id (fun ho => own_same ho (fun k hk => h.block k (ho.lt k hk).2 (fun e => by
      obtain ⟨cs, hh⟩ := own_row ho hk
      exact (hO k e cs).2 hh))) }
/-- A watcher of a hub: its number, its block, and what it is. -/
structure Sl where
  id : Int
  g : Nat
  t : Wt
def slotF (l : List Sl) (k : Int) : Option Nat := (l.find? fun s => s.id == k).map (·.g)
/-- No block of the one is a block of the other. -/
def Sl.apart (s s' : Sl) : Prop := s.g ≠ s'.g ∧ s.g ≠ s'.t.rg ∧ s.t.rg ≠ s'.g ∧ s.t.rg ≠ s'.t.rg
structure HubAt (w : World) (base hb : Nat) (m : Option Nat) (n : Nat) (l : List Sl) : Prop where
  blk : Blk w hb 36 #[.map m]
  bmap : ∀ b, m = some b → MapIs w b n (slotF l) l.length ∧ base ≤ b
  nomap : m = none → l = []
  wts : ∀ s ∈ l, WtAt w base s.g s.t ∧ base ≤ s.g ∧ base ≤ s.t.rg ∧ s.t.rg < w.heap.size ∧ (s.t.rn = 0 → s.t.rg = s.g)
  ids : l.Pairwise fun s s' => s.id ≠ s'.id
  apart : l.Pairwise Sl.apart
  hbase : base ≤ hb
  range : ∀ s ∈ l, 0 ≤ s.id ∧ s.id < 64
/-- The blocks that calls of a hub change. -/
def hubO (hb : Nat) (m : Option Nat) (l : List Sl) : List Nat := hb :: (m.toList ++ l.flatMap fun s => [s.g, s.t.rg])
theorem mem_hubO {hb : Nat} {m : Option Nat} {l : List Sl} {k : Nat} : k ∈ hubO hb m l ↔ k = hb ∨ m = some k ∨ ∃ s ∈ l, k = s.g ∨ k = s.t.rg := by
  unfold hubO
  simp only [List.mem_cons, List.mem_append, Option.mem_toList, List.mem_flatMap, List.not_mem_nil, or_false]
theorem map_blk_ne {w : World} {b n c g : Nat} {F : Int → Option Nat} {t : TypeId} {cs : Array Value} (h : MapIs w b n F c) (hb : Blk w g t cs) : b ≠ g := fun e => by
  subst e
  obtain ⟨D, ⟨es, clock, hh, _⟩, _⟩ := h
  unfold Blk at hb
  rw [hb] at hh
  cases hh
section
variable {w w1 : World} {base hb n : Nat} {m : Option Nat} {l : List Sl} {s : Sl}
/-- What type the blocks of a watcher have. -/
theorem HubAt.rgType (h : HubAt w base hb m n l) (hs : s ∈ l) : ∃ cs ty, Blk w s.t.rg ty cs ∧ ty ≠ 5 ∧ ty ≠ 25 ∧ ty ≠ 36 := by
  obtain ⟨hw, _, _, _, h0⟩ := h.wts s hs
  by_cases e : s.t.rn = 0
  · rw [h0 e]; exact ⟨_, 76, hw.blk, by decide, by decide, by decide⟩
  · obtain ⟨cs, hb, _⟩ := hw.ring e
    exact ⟨cs, 30, hb, by decide, by decide, by decide⟩
theorem HubAt.noRow (h : HubAt w base hb m n l) : ∀ k ∈ hubO hb m l, NoRow w k := by
  intro k hk
  rw [mem_hubO] at hk
  rcases hk with rfl | rfl | ⟨s, hs, rfl | rfl⟩
  · exact NoRow.blk h.blk (by decide) (by decide)
  · exact NoRow.map (h.bmap k rfl).1
  · exact NoRow.blk (h.wts s hs).1.blk (by decide) (by decide)
  · obtain ⟨cs, ty, a, b, c, _⟩ := h.rgType hs
    exact NoRow.blk a b c
theorem HubAt.ge (h : HubAt w base hb m n l) : ∀ k ∈ hubO hb m l, base ≤ k := by
  intro k hk
  rw [mem_hubO] at hk
  rcases hk with rfl | rfl | ⟨s, hs, rfl | rfl⟩
  · exact h.hbase
  · exact (h.bmap k rfl).2
  · exact (h.wts s hs).2.1
  · exact (h.wts s hs).2.2.1
theorem HubAt.lt (h : HubAt w base hb m n l) : ∀ k ∈ hubO hb m l, k < w.heap.size := by
  intro k hk
  rw [mem_hubO] at hk
  rcases hk with rfl | rfl | ⟨s, hs, rfl | rfl⟩
  · exact h.blk.lt
  · exact (h.bmap k rfl).1.lt
  · exact (h.wts s hs).1.blk.lt
  · exact (h.wts s hs).2.2.2.1
/-- A hub is not touched by what is done to other blocks. -/
theorem HubAt.chg {O : List Nat} (h : HubAt w base hb m n l) (hc : Chg O w w1) (hd : ∀ k ∈ O, k ∉ hubO hb m l) (hO : ∀ k ∈ O, NoRow w k) : HubAt w1 base hb m n l where
  blk := hc.blk h.blk (fun e => hd hb e (mem_hubO.2 (Or.inl rfl)))
  bmap := fun b hb' => by
    obtain ⟨h1, h2⟩ := h.bmap b hb'
    exact ⟨h1.at_ (hc.block b h1.lt (fun e => hd b e (mem_hubO.2 (Or.inr (Or.inl hb'))))), h2⟩
  nomap := h.nomap
  wts := fun s hs => by
    obtain ⟨h1, h2, h3, h4, h5⟩ := h.wts s hs
    exact ⟨h1.chg2 hc (fun e => hd _ e (mem_hubO.2 (Or.inr (Or.inr ⟨s, hs, Or.inl rfl⟩)))) (fun _ e => hd _ e (mem_hubO.2 (Or.inr (Or.inr ⟨s, hs, Or.inr rfl⟩)))) hO, h2, h3, Nat.lt_of_lt_of_le h4 hc.size, h5⟩
  ids := h.ids
  apart := h.apart
  hbase := h.hbase
  range := h.range
theorem HubAt.fresh (h : HubAt w base hb m n l) (hc : Chg [] w w1) : HubAt w1 base hb m n l := h.chg hc (by simp) (by simp)
theorem HubAt.below (h : HubAt w base hb m n l) (hc : Below w.heap.size w w1) : HubAt w1 base hb m n l := h.fresh (Chg.below hc [])
end
/-- The blocks of some events' values. -/
def wb (a : List Hv) : List Nat := a.filterMap fun h => h.A.map (·.block)
def vblks (l : List Sl) : List Nat := l.flatMap fun s => wb s.t.wait
/-- What becomes of the values' blocks: new ones lie at or above B; different ones stay different. -/
def VTo (B : Nat) (x y : List Nat) : Prop := (∀ k ∈ y, k ∈ x ∨ B ≤ k) ∧ (x.Nodup → (∀ k ∈ x, k < B) → y.Nodup)
theorem VTo.refl (B : Nat) (x : List Nat) : VTo B x x := ⟨fun _ h => Or.inl h, fun h _ => h⟩
theorem VTo.trans {B B' : Nat} {x y z : List Nat} (h : VTo B x y) (h' : VTo B' y z) (hB : B ≤ B') (hy : ∀ k ∈ y, k < B') : VTo B x z :=
  ⟨fun k hk => by
    rcases h'.1 k hk with e | e
    · exact h.1 k e
    · exact Or.inr (Nat.le_trans hB e), fun hx hl => h'.2 (h.2 hx hl) hy⟩
theorem VTo.sub {B : Nat} {x y : List Nat} (h : y.Sublist x) : VTo B x y := ⟨fun _ hk => Or.inl (h.subset hk), fun hx _ => hx.sublist h⟩
theorem VTo.mid {B : Nat} {x y : List Nat} (h : VTo B x y) (a b : List Nat) : VTo B (a ++ (x ++ b)) (a ++ (y ++ b)) := by
  refine ⟨fun k hk => ?_, fun hn hl => ?_⟩
  · simp only [List.mem_append] at hk ⊢
    rcases hk with e | e | e
    · exact Or.inl (Or.inl e)
    · exact (h.1 k e).imp (fun e => Or.inr (Or.inl e)) id
    · exact Or.inl (Or.inr (Or.inr e))
  · rw [List.nodup_append] at hn ⊢
    obtain ⟨h1, h2, h3⟩ := hn
    rw [List.nodup_append] at h2 ⊢
    obtain ⟨h4, h5, h6⟩ := h2
    refine ⟨h1, ⟨h.2 h4 (fun k hk => hl k (by simp [hk])), h5, fun k hk j hj => ?_⟩, fun k hk j hj => ?_⟩
    · rcases h.1 k hk with e | e
      · exact h6 k e j hj
      · have := hl j (by simp [hj]); omega
    · rcases List.mem_append.1 hj with hj | hj
      · rcases h.1 j hj with e | e
        · exact h3 k hk j (by simp [e])
        · have := hl k (by simp [hk]); omega
      · exact h3 k hk j (by simp [hj])
theorem VTo.snoc {B k : Nat} {x y : List Nat} (h : y.Sublist x) (hk : B ≤ k) : VTo B x (y ++ [k]) := by
  refine ⟨fun j hj => ?_, fun hx hl => ?_⟩
  · rcases List.mem_append.1 hj with hj | hj
    · exact Or.inl (h.subset hj)
    · simp only [List.mem_singleton] at hj; subst hj; exact Or.inr hk
  · rw [List.nodup_append]
    refine ⟨hx.sublist h, by simp, fun a ha b hb => ?_⟩
    simp only [List.mem_singleton] at hb
    have := hl a (h.subset ha)
    omega
theorem vblks_mid (a b : List Sl) (s : Sl) : vblks (a ++ s :: b) = vblks a ++ (wb s.t.wait ++ vblks b) := by simp [vblks]
theorem EvOwn.block_lt {w : World} {base k : Nat} {h : Hv} (o : EvOwn w base h) (hk : h.A.map (·.block) = some k) : base ≤ k ∧ k < w.heap.size := by
  refine o.1.lt k ?_
  cases e : h.A with
  | none => rw [e] at hk; cases hk
  | some a => rw [e] at hk; exact hk
theorem HubAt.vlt {w : World} {base hb n : Nat} {m : Option Nat} {l : List Sl} (h : HubAt w base hb m n l) : ∀ k ∈ vblks l, base ≤ k ∧ k < w.heap.size := by
  intro k hk
  unfold vblks wb at hk
  rw [List.mem_flatMap] at hk
  obtain ⟨s, hs, hk⟩ := hk
  rw [List.mem_filterMap] at hk
  obtain ⟨x, hx, hk⟩ := hk
  exact ((h.wts s hs).1.own x hx).block_lt hk
theorem slotF_some {l : List Sl} {k : Int} {g : Nat} (h : slotF l k = some g) : ∃ s ∈ l, s.id = k ∧ s.g = g := by
  unfold slotF at h
  rw [Option.map_eq_some_iff] at h
  obtain ⟨s, hs, rfl⟩ := h
  exact ⟨s, List.mem_of_find?_eq_some hs, by simpa using List.find?_some hs, rfl⟩
theorem slotF_none {l : List Sl} {k : Int} : slotF l k = none ↔ ∀ s ∈ l, s.id ≠ k := by
  unfold slotF
  rw [Option.map_eq_none_iff, List.find?_eq_none]
  simp
theorem slotF_mem {l : List Sl} (hid : l.Pairwise fun s s' => s.id ≠ s'.id) {s : Sl} (hs : s ∈ l) : slotF l s.id = some s.g := by
  induction l with
  | nil => cases hs
  | cons a l ih =>
    unfold slotF
    rw [List.find?_cons]
    cases e : (a.id == s.id) with
    | true =>
      rcases List.mem_cons.1 hs with rfl | hs
      · rfl
      · have := (List.pairwise_cons.1 hid).1 s hs
        exact absurd (by simpa using e) this
    | false =>
      rcases List.mem_cons.1 hs with rfl | hs
      · simp at e
      · exact ih (List.pairwise_cons.1 hid).2 hs
theorem nilLookup (w : World) (k : Int) (hk : (ilit k).wf = true) : (Instr.lookup 34 (.map none) (.int .i64 k) false).run Try.prog w = .ok (.pointer none) w := by
  have hkey := keyOf_int_mk (k := 3) Try.underlying3 hk
  have := Maps.look_nil false law3 Try.underlying34 (zero74 w) hkey
  rw [if_neg (by simp)] at this
  exact this
theorem wf_id {k : Int} (h0 : 0 ≤ k) (h1 : k < 64) : (ilit k).wf = true := by
  unfold ilit; simp only [Lit.wf, IntKind.min, IntKind.max, IntKind.bits, IntKind.signed]; simp; omega
set_option maxHeartbeats 1000000 in
theorem find_yes (w : World) (base hb n : Nat) (m : Option Nat) (l : List Sl) (s : Sl) (h : HubAt w base hb m n l) (hs : s ∈ l) :
    Calls Try.prog 39 #[.pointer (some ⟨hb, 0, none⟩), .int .i64 s.id] w fun e w' => e = .returned (.tuple #[.pointer (some ⟨s.g, 0, none⟩), .int .i64 0]) ∧ w = w' := by
  have hm : ∃ b, m = some b := by
    cases m with
    | none => rw [h.nomap rfl] at hs; cases hs
    | some b => exact ⟨b, rfl⟩
  obtain ⟨b, rfl⟩ := hm
  have hr := h.range s hs
  have hlk := (h.bmap b rfl).1.look (k := s.id) (wf_id hr.1 hr.2)
  rw [slotF_mem h.ids hs] at hlk
  unfold ptrV at hlk
  have c0 := h.blk.cell 0
  simp only [List.getElem?_toArray, List.getElem?_cons_zero] at c0
  generalize s.id = k at *
  generalize s.g = g at *
  clear h hs hr
  go_enter Try.func39, Try.ntmps39
  go_wp2
  go_ret2
  exact ⟨rfl, rfl⟩
set_option maxHeartbeats 1000000 in
theorem find_no (w : World) (base hb n : Nat) (m : Option Nat) (l : List Sl) (k : Int) (h : HubAt w base hb m n l) (hk : (ilit k).wf = true) (hs : ∀ s ∈ l, s.id ≠ k) :
    Calls Try.prog 39 #[.pointer (some ⟨hb, 0, none⟩), .int .i64 k] w fun e w' => e = .returned (.tuple #[.pointer none, .int .i64 9]) ∧ w = w' := by
  have c0 := h.blk.cell 0
  simp only [List.getElem?_toArray, List.getElem?_cons_zero] at c0
  have hlk : (Instr.lookup 34 (.map m) (.int .i64 k) false).run Try.prog w = .ok (.pointer none) w := by
    cases m with
    | none => exact nilLookup w k hk
    | some b =>
      have := (h.bmap b rfl).1.look hk
      rwa [slotF_none.2 hs] at this
  clear h hs
  go_enter Try.func39, Try.ntmps39
  go_wp2
  go_ret2
  exact ⟨rfl, rfl⟩
set_option maxHeartbeats 1000000 in
theorem lost_yes (w : World) (base hb n : Nat) (m : Option Nat) (l : List Sl) (s : Sl) (h : HubAt w base hb m n l) (hs : s ∈ l) :
    Calls Try.prog 21 #[.pointer (some ⟨hb, 0, none⟩), .int .i64 s.id] w fun e w' => e = .returned (.tuple #[.int .i64 s.t.lost, .int .i64 0]) ∧ w = w' := by
  have HF := Lib.hid (find_yes w base hb n m l s h hs)
  have c7 := (h.wts s hs).1.blk.cell 7
  unfold Wt.cells at c7
  simp only [List.getElem?_toArray, List.getElem?_cons_zero, List.getElem?_cons_succ] at c7
  clear h hs
  generalize s.id = k at *
  generalize s.g = g at *
  go_enter Try.func21, Try.ntmps21
  go_wp2_with fail
  refine HF.out.mono ?_
  rintro e w' ⟨rfl, rfl⟩
  go_wp2
  go_ret2
  exact ⟨rfl, rfl⟩
set_option maxHeartbeats 1000000 in
theorem lost_no (w : World) (base hb n : Nat) (m : Option Nat) (l : List Sl) (k : Int) (h : HubAt w base hb m n l) (hk : (ilit k).wf = true) (hs : ∀ s ∈ l, s.id ≠ k) :
    Calls Try.prog 21 #[.pointer (some ⟨hb, 0, none⟩), .int .i64 k] w fun e w' => e = .returned (.tuple #[.int .i64 0, .int .i64 9]) ∧ w = w' := by
  have HF := Lib.hid (find_no w base hb n m l k h hk hs)
  clear h hs hk
  go_enter Try.func21, Try.ntmps21
  go_wp2_with fail
  refine HF.out.mono ?_
  rintro e w' ⟨rfl, rfl⟩
  go_wp2
  go_ret2
  exact ⟨rfl, rfl⟩
end Go.Proofs.Ytfimgkjdfjlkhaa
