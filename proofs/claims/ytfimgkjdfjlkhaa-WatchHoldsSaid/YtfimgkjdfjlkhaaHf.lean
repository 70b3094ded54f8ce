/- A watcher in memory, and what 'take' does. -/
import Derived.Test.YtfimgkjdfjlkhaaHe
namespace Go.Proofs.Ytfimgkjdfjlkhaa
open Go.RowKit Go.Deep

/-- A rule in memory. -/
structure Rl where
  pre : ByteArray
  kinds : List Int
  room : Nat
  oldest : Bool
  kA : Option Addr
  kc : Nat
/-- A watcher in memory: its ring is block rg, of rn places (none if rn is 0). -/
structure Wt where
  rl : Rl
  rg : Nat
  rn : Nat
  first : Nat
  wait : List Hv
  lost : Nat
def Wt.ring (t : Wt) : Value := if t.rn = 0 then .slice none 0 0 else .slice (some ⟨t.rg, 0, none⟩) t.rn t.rn
def Wt.cells (t : Wt) : Array Value := #[.string t.rl.pre, .slice t.rl.kA t.rl.kinds.length t.rl.kc, .int .i64 t.rl.room, .bool t.rl.oldest, t.ring, .int .i64 t.first, .int .i64 t.wait.length, .int .i64 t.lost]
/-- An event whose value is the hub's own. -/
def EvOwn (w : World) (base : Nat) (h : Hv) : Prop :=
  w.ownsRow base 5 1 (.slice h.A h.e.val.length h.c) h.e.val.length (ints .u8 h.e.val) ∧ h.e.key.size ≤ maxLen ∧ h.e.val.length ≤ 65536
/-- The events that wait, from the first place on, around the ring. -/
def RingIs (cs : Array Value) (rn first : Nat) (wait : List Hv) : Prop :=
  cs.size = rn * 6 ∧ ∀ i q, i < wait.length → q < 6 → cs[((first + i) % rn) * 6 + q]? = (hnth wait i).cells[q]?
/-- Nothing but some blocks has changed. -/
structure Chg (O : List Nat) (w w' : World) : Prop where
  os : w'.os = w.os
  tape : w'.tape = w.tape
  output : w'.output = w.output
  size : w.heap.size ≤ w'.heap.size
  block : ∀ k, k < w.heap.size → k ∉ O → w'.heap[k]? = w.heap[k]?
section
variable {w w1 w2 : World} {O O' : List Nat} {g : Nat} {t : TypeId} {cs : Array Value}
theorem Chg.refl (O : List Nat) (w : World) : Chg O w w := ⟨rfl, rfl, rfl, Nat.le_refl _, fun _ _ _ => rfl⟩
theorem Chg.mono (h : Chg O w w1) (ho : ∀ x ∈ O, x ∈ O') : Chg O' w w1 := ⟨h.os, h.tape, h.output, h.size, fun k hk hn => h.block k hk (fun e => hn (ho k e))⟩
/-- What the second step changes may be new. -/
theorem Chg.trans (h : Chg O w w1) (h' : Chg O' w1 w2) (ho : ∀ x ∈ O', x ∈ O ∨ w.heap.size ≤ x) : Chg O w w2 :=
  ⟨h'.os.trans h.os, h'.tape.trans h.tape, h'.output.trans h.output, Nat.le_trans h.size h'.size, fun k hk hn => (h'.block k (Nat.lt_of_lt_of_le hk h.size) (fun e => (ho k e).elim hn (fun h2 => by omega))).trans (h.block k hk hn)⟩
theorem Chg.below (h : Below w.heap.size w w1) (O : List Nat) : Chg O w w1 := ⟨h.os, h.tape, h.output, h.size, fun k hk _ => h.block k hk⟩
theorem Chg.alloc (h : Chg O w w1) (o : Obj) : Chg O w (w1.alloc o) := h.trans (Chg.below ((Below.refl _ w1).alloc (Nat.le_refl _) o) []) (fun _ h => by cases h)
theorem Chg.drew (h : Chg O w w1) : Chg O w w1.drew := ⟨h.os, h.tape, h.output, h.size, h.block⟩
theorem Chg.drewN (h : Chg O w w1) (n : Nat) : Chg O w (w1.drewN n) := ⟨h.os, h.tape, h.output, h.size, h.block⟩
theorem Chg.setCell (h : Chg O w w1) {p : Addr} (hp : p.block ∈ O ∨ w.heap.size ≤ p.block) (u : Value) : Chg O w (w1.setCell p u) :=
  ⟨h.os, h.tape, h.output, by simpa using h.size, fun k hk hn => by
    have hne : k ≠ p.block := by
      rintro rfl
      rcases hp with hp | hp
      · exact hn hp
      · omega
    rw [heap_setCell_other _ _ _ _ hne]
    exact h.block k hk hn⟩
theorem Chg.blk (h : Chg O w w1) (hb : Blk w g t cs) (hn : g ∉ O) : Blk w1 g t cs := hb.keep (h.block g hb.lt hn)
theorem Chg.grown (h : w.grownBy w1 none) (O : List Nat) : Chg O w w1 := ⟨h.os, h.tape, h.output, h.size, fun k hk _ => h.block k hk (by simp)⟩
theorem Chg.own (h : Chg O w w1) {base e size n : Nat} {v : Value} {xs : List Value} (hx : w.ownsRow base e size v n xs) (hn : ∀ k ∈ O, k < w.heap.size → ∃ cs t, Blk w k t cs ∧ t ≠ e) : w1.ownsRow base e size v n xs :=
  own_same hx (fun k hk => h.block k (hx.lt k hk).2 (fun e => by
    obtain ⟨cs, t, hb, ht⟩ := hn k e (hx.lt k hk).2
    exact own_blk_ne hx hb (Ne.symm ht) hk))
theorem Chg.evOwn (h : Chg O w w1) {base : Nat} {x : Hv} (hx : EvOwn w base x) (hn : ∀ k ∈ O, k < w.heap.size → ∃ cs t, Blk w k t cs ∧ t ≠ 5) : EvOwn w1 base x :=
  ⟨own_same hx.1 (fun k hk => h.block k (hx.1.lt k hk).2 (fun e => by
    obtain ⟨cs, t, hb, ht⟩ := hn k e (hx.1.lt k hk).2
    exact own_blk_ne hx.1 hb (Ne.symm ht) hk)), hx.2⟩
end
/-- What holds of a watcher in block g. -/
structure WtAt (w : World) (base g : Nat) (t : Wt) : Prop where
  blk : Blk w g 76 t.cells
  ring : t.rn ≠ 0 → ∃ cs, Blk w t.rg 30 cs ∧ RingIs cs t.rn t.first t.wait
  hf : t.rn ≠ 0 → t.first < t.rn
  hf0 : t.rn = 0 → t.first = 0
  many : t.wait.length ≤ t.rn
  room1 : 1 ≤ t.rl.room
  room : t.rn ≤ t.rl.room
  room2 : t.rl.room ≤ 1000
  own : ∀ h ∈ t.wait, EvOwn w base h
  kinds : t.rl.kinds.length = 0 ∨ w.ownsRow base 25 1 (.slice t.rl.kA t.rl.kinds.length t.rl.kc) t.rl.kinds.length (ints .i64 t.rl.kinds)

/-- Six cells of a ring are written. -/
def put6 (cs : Array Value) (p : Nat) (a b c d e f : Value) : Array Value :=
  (((((cs.setIfInBounds (p * 6) a).setIfInBounds (p * 6 + 1) b).setIfInBounds (p * 6 + 2) c).setIfInBounds (p * 6 + 3) d).setIfInBounds (p * 6 + 4) e).setIfInBounds (p * 6 + 5) f
theorem put6_size (cs : Array Value) (p : Nat) (a b c d e f : Value) : (put6 cs p a b c d e f).size = cs.size := by simp [put6]
theorem put6_at (cs : Array Value) (p : Nat) (a b c d e f : Value) {n k q : Nat} (hs : cs.size = n * 6) (hp : p < n) (hq : q < 6) :
    (put6 cs p a b c d e f)[k * 6 + q]? = if k = p then [a, b, c, d, e, f][q]? else cs[k * 6 + q]? := by
  unfold put6
  by_cases e1 : k = p
  · subst e1
    rw [if_pos rfl]
    have hc : q = 0 ∨ q = 1 ∨ q = 2 ∨ q = 3 ∨ q = 4 ∨ q = 5 := by omega
    rcases hc with rfl | rfl | rfl | rfl | rfl | rfl <;> simp [Array.getElem?_setIfInBounds] <;> omega
  · rw [if_neg e1]
    repeat (rw [Array.getElem?_setIfInBounds_ne (by omega)])
/-- The same, of a world. -/
def set6 (w : World) (b p : Nat) (x0 x1 x2 x3 x4 x5 : Value) : World :=
  (((((w.setCell ⟨b, p * 6, none⟩ x0).setCell ⟨b, p * 6 + 1, none⟩ x1).setCell ⟨b, p * 6 + 2, none⟩ x2).setCell ⟨b, p * 6 + 3, none⟩ x3).setCell ⟨b, p * 6 + 4, none⟩ x4).setCell ⟨b, p * 6 + 5, none⟩ x5
theorem set6_cell {w : World} {b p : Nat} {q : Addr} (h : q.block ≠ b) (x0 x1 x2 x3 x4 x5 : Value) : (set6 w b p x0 x1 x2 x3 x4 x5).cell? q = w.cell? q := by
  unfold set6
  repeat (rw [cell_far (by simpa using h)])
theorem set6_blk {w : World} {b : Nat} (p : Nat) {t : TypeId} {cs : Array Value} (h : Blk w b t cs) (x0 x1 x2 x3 x4 x5 : Value) : Blk (set6 w b p x0 x1 x2 x3 x4 x5) b t (put6 cs p x0 x1 x2 x3 x4 x5) :=
  (((((h.set_ _ _).set_ _ _).set_ _ _).set_ _ _).set_ _ _).set_ _ _
theorem set6_far {w : World} {b g : Nat} (p : Nat) {t : TypeId} {cs : Array Value} (h : Blk w g t cs) (hne : g ≠ b) (x0 x1 x2 x3 x4 x5 : Value) : Blk (set6 w b p x0 x1 x2 x3 x4 x5) g t cs := by
  unfold set6
  exact (((((h.far (by simpa using hne) _).far (by simpa using hne) _).far (by simpa using hne) _).far (by simpa using hne) _).far (by simpa using hne) _).far (by simpa using hne) _
theorem set6_chg {w w1 : World} {O : List Nat} {b : Nat} (p : Nat) (h : Chg O w w1) (hb : b ∈ O ∨ w.heap.size ≤ b) (x0 x1 x2 x3 x4 x5 : Value) : Chg O w (set6 w1 b p x0 x1 x2 x3 x4 x5) := by
  unfold set6
  exact (((((h.setCell (by simpa using hb) _).setCell (by simpa using hb) _).setCell (by simpa using hb) _).setCell (by simpa using hb) _).setCell (by simpa using hb) _).setCell (by simpa using hb) _
theorem set6_size (w : World) (b p : Nat) (x0 x1 x2 x3 x4 x5 : Value) : (set6 w b p x0 x1 x2 x3 x4 x5).heap.size = w.heap.size := by simp [set6]
theorem mod_ne {rn f i j : Nat} (hi : i < rn) (hj : j < rn) (hne : i ≠ j) : (f + i) % rn ≠ (f + j) % rn := by
  intro e
  have h1 := Nat.mod_add_div (f + i) rn
  have h2 := Nat.mod_add_div (f + j) rn
  rw [e] at h1
  rcases Nat.lt_trichotomy ((f + i) / rn) ((f + j) / rn) with h | h | h
  · have : rn * ((f + i) / rn) + rn ≤ rn * ((f + j) / rn) := by rw [← Nat.mul_succ]; exact Nat.mul_le_mul_left _ h
    omega
  · rw [h] at h1; omega
  · have : rn * ((f + j) / rn) + rn ≤ rn * ((f + i) / rn) := by rw [← Nat.mul_succ]; exact Nat.mul_le_mul_left _ h
    omega
theorem RingIs.take {cs : Array Value} {rn first : Nat} {h : Hv} {rest : List Hv} (hr : RingIs cs rn first (h :: rest)) (hl : rest.length < rn) (hf : first < rn) (a b c d e f : Value) :
    RingIs (put6 cs first a b c d e f) rn ((first + 1) % rn) rest := by
  refine ⟨by rw [put6_size]; exact hr.1, fun i q hi hq => ?_⟩
  have e1 : ((first + 1) % rn + i) % rn = (first + (i + 1)) % rn := by rw [Nat.mod_add_mod]; congr 1; omega
  have hne : (first + (i + 1)) % rn ≠ first := by
    have := mod_ne (f := first) (rn := rn) (i := i + 1) (j := 0) (by omega) (by omega) (by omega)
    have e2 : (first + 0) % rn = first := by rw [Nat.add_zero]; exact Nat.mod_eq_of_lt hf
    rwa [e2] at this
  rw [e1, put6_at _ _ _ _ _ _ _ _ hr.1 hf hq, if_neg hne, hr.2 (i + 1) q (by simp; omega) hq]
  rfl
theorem RingIs.put {cs : Array Value} {rn first : Nat} {wait : List Hv} (h : Hv) (hr : RingIs cs rn first wait) (hl : wait.length < rn) :
    RingIs (put6 cs ((first + wait.length) % rn) (.int .i64 h.e.kind) (.string h.e.key) (.slice h.A h.e.val.length h.c) (.int .u64 h.e.birth) (.int .u64 h.e.due) (.int .u64 h.e.at_)) rn first (wait ++ [h]) := by
  refine ⟨by rw [put6_size]; exact hr.1, fun i q hi hq => ?_⟩
  rw [put6_at _ _ _ _ _ _ _ _ hr.1 (Nat.mod_lt _ (by omega)) hq]
  by_cases e : i = wait.length
  · subst e
    rw [if_pos rfl, hnth_eq (by simp)]
    simp [Hv.cells]
  · have hi' : i < wait.length := by simp at hi; omega
    rw [if_neg (mod_ne (by omega) hl e), hr.2 i q hi' hq]
    unfold hnth
    rw [List.getD, List.getD, List.getElem?_append_left hi']
end Go.Proofs.Ytfimgkjdfjlkhaa
