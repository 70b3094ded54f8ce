/- Words for memory, of any program: lists of whole numbers, appends, rows that are owned. No condition. -/
import Derived.Test.YtfimgkjdfjlkhaaBa
import Derived.WalkKit
import Derived.WalkLawsBesides
import Derived.WalkSpells
import Derived.Outline
namespace Go.Proofs.Ytfimgkjdfjlkhaa
open Go.RowKit

theorem ret_int {k : IntKind} {a b : Int} (h : a = b) : Ending.returned (.int k a) = .returned (.int k b) := by rw [h]
/-- A list of whole numbers as values. -/
def ints (k : IntKind) (zs : List Int) : List Value := zs.map (Value.int k)
/-- The number at a place of a list; closed to simp. -/
def nth (zs : List Int) (j : Nat) : Int := zs.getD j 0
theorem nth_eq {zs : List Int} {j : Nat} (h : j < zs.length) : nth zs j = zs[j] := by unfold nth; rw [List.getD, List.getElem?_eq_getElem h]; rfl
theorem nth_mem {zs : List Int} {j : Nat} (h : j < zs.length) : nth zs j ∈ zs := by rw [nth_eq h]; exact List.getElem_mem h
theorem spot_of_cell {w : World} {a : Addr} {v : Value} (h : w.cell? a = some v) : a.spot = none := by
  unfold World.cell? at h
  cases hs : a.spot with
  | none => rfl
  | some x =>
    rw [hs] at h
    split at h
    · simp at h
    · cases h
theorem add_spot (a : Addr) (n : Nat) (h : a.spot = none) : a.add n = ⟨a.block, a.off + n, none⟩ := by
  unfold Addr.add
  obtain ⟨b, o, s⟩ := a
  subst h
  split
  · rename_i e; subst e; rfl
  · rfl
theorem Reads.int_at {w : World} {B n : Nat} {A : Option Addr} {k : IntKind} {zs : List Int} {j : Nat} (h : Reads w B 1 A n (ints k zs)) (hj : j < n) :
    ∃ b o : Nat, A = some ⟨b, o, none⟩ ∧ b < B ∧ w.cell? ⟨b, o + j, none⟩ = some (.int k (nth zs j)) := by
  obtain ⟨ad, u, e, hb, hx, hc⟩ := h.at_ hj
  have hs : ad.spot = none := by
    obtain ⟨ad', u', e', _, _, hc'⟩ := h.at_ (k := 0) (by omega)
    rw [e] at e'; injection e' with e'; subst e'
    have := spot_of_cell hc'
    unfold Addr.add at this; simpa using this
  rw [add_spot _ _ hs] at hc
  obtain ⟨b, o, s⟩ := ad
  simp only at hs
  subst hs
  refine ⟨b, o, e, hb, ?_⟩
  rw [hc]
  unfold ints at hx
  rw [List.getElem?_map] at hx
  rw [nth, List.getD]
  cases hz : zs[j]? with
  | none => rw [hz] at hx; cases hx
  | some z => rw [hz] at hx; simpa using hx.symm
theorem Reads.int_len {w : World} {B n : Nat} {A : Option Addr} {k : IntKind} {zs : List Int} (h : Reads w B 1 A n (ints k zs)) : zs.length = n := by
  have := h.1; unfold ints at this; simpa using this
theorem ret_bool {a b : Bool} (h : a = b) : Ending.returned (.bool a) = .returned (.bool b) := by rw [h]
/-- 'append(s, x)' of one element onto a row of the call's own. -/
theorem wpList_app1 {P : Program} {ops : Array Oper} {rest : List Oper} {o : Oper} {a : Act} {Q : Exit → Act → World → Prop} (w0 : World) (hgd : o.guard = none) (s x : Operand) (t : TypeId)
    (ho : o.op = .call { callee := .builtin .append, args := #[s, x], argTypes := #[t, t] })
    (base : Nat) (e : TypeId) (size bytes : Nat) (z : Value) (hinfo : (P.info? e).map (fun i => (i.zero, i.size, i.bytes)) = some (some z, size, bytes)) (ht : P.underlying t = some (.slice e)) (hzs : z.cells.size = size) (hsz : 0 < size)
    (v : Value) (n : Nat) (xs cs : List Value) (hs : a.eval s = v) (hown : w0.ownsRow base e size v n xs) (hcs : cs.length = size) (h1 : ∀ u ∈ cs, u.oneCell' = true)
    (hx : a.eval x = .slice (some ⟨w0.heap.size, 0, none⟩) 1 1) (h63 : n + 1 ≤ maxLen) (hbytes : (n + 1) * bytes ≤ 140737488355328) (hbase : base ≤ w0.heap.size)
    (h : ∀ v' w', w'.ownsRow base e size v' (n + 1) (xs ++ cs) → w0.grownBy w' v.ownBlock → wpList P ops Q rest (a.put o.dst v') w') : wpList P ops Q (o :: rest) a (w0.alloc (.cells cs.toArray e)) := by
  obtain ⟨i0, hi, hz0, hz1, hz2⟩ := info_parts hinfo
  refine wpList_append_own (w0.alloc (.cells cs.toArray e)) hgd s x t ho base e i0 z size bytes ht hi hz0 hz1 hz2 hzs hsz v n xs hs (hown.alloc _) ⟨w0.heap.size, 0, none⟩ 1 1 cs hx (by omega) ?_ h1 h63 hbytes (by simp; omega) ?_
  · intro j u hj
    have hs : (w0.alloc (.cells cs.toArray e)).heap[w0.heap.size]? = some (.cells cs.toArray e) := heap_alloc_new w0 _
    rw [add_spot _ _ rfl]
    simp only [Nat.zero_add]
    unfold World.cell?
    rw [hs]
    simpa using hj
  · intro v' w' hown' hg _
    exact h v' w' hown' ((World.grownBy_alloc _ _ _).trans hg)
theorem below_grew {w w1 w2 : World} {v : Value} {n : Nat} {xs : List Value} {e size : Nat} (hb : Below w.heap.size w w1) (hown : w1.ownsRow w.heap.size e size v n xs) (hg : w1.grownBy w2 v.ownBlock) : Below w.heap.size w w2 :=
  hb.grown hg hb.size fun k hk => (hown.lt k hk).1
theorem ints_snoc (k : IntKind) (xs : List Int) (x : Int) : ints k (xs ++ [x]) = ints k xs ++ [.int k x] := by simp [ints]
/-- 'append(s, x)' of one element onto a row of the call's own, in a region that draws its order. -/
theorem step_app1 {P : Program} {ops : Array Oper} {o : Oper} {a : Act} {K : Act → World → Prop} {Q : Exit → Act → World → Prop} {E : Prop} (w0 : World) (hgd : o.guard = none) (s x : Operand) (t : TypeId)
    (ho : o.op = .call { callee := .builtin .append, args := #[s, x], argTypes := #[t, t] })
    (base : Nat) (e : TypeId) (size bytes : Nat) (z : Value) (hinfo : (P.info? e).map (fun i => (i.zero, i.size, i.bytes)) = some (some z, size, bytes)) (ht : P.underlying t = some (.slice e)) (hzs : z.cells.size = size) (hsz : 0 < size)
    (v : Value) (n : Nat) (xs cs : List Value) (hs : a.eval s = v) (hown : w0.ownsRow base e size v n xs) (hcs : cs.length = size) (h1 : ∀ u ∈ cs, u.oneCell' = true)
    (hx : a.eval x = .slice (some ⟨w0.heap.size, 0, none⟩) 1 1) (h63 : n + 1 ≤ maxLen) (hbytes : (n + 1) * bytes ≤ 140737488355328) (hbase : base ≤ w0.heap.size)
    (h : ∀ v' w', w'.ownsRow base e size v' (n + 1) (xs ++ cs) → w0.grownBy w' v.ownBlock → K (a.put o.dst v') w') :
    if Region.wanted o (yielded ops a.tmps) = true then Oper.wp P o a (w0.alloc (.cells cs.toArray e)).drew K Q else E := by
  obtain ⟨i0, hi, hz0, hz1, hz2⟩ := info_parts hinfo
  have hr : Reads (w0.alloc (.cells cs.toArray e)).drew (w0.heap.size + 1) size (some ⟨w0.heap.size, 0, none⟩) 1 cs := by
    refine ⟨by omega, fun _ => ⟨_, rfl, by simp, fun j u hj => ?_⟩⟩
    have hs : (w0.alloc (.cells cs.toArray e)).heap[w0.heap.size]? = some (.cells cs.toArray e) := heap_alloc_new w0 _
    rw [add_spot _ _ rfl]
    simp only [Nat.zero_add]
    show (w0.alloc (.cells cs.toArray e)).cell? _ = _
    unfold World.cell?
    rw [hs]
    simpa using hj
  refine step_append_any (w := (w0.alloc (.cells cs.toArray e)).drew) hgd s x t ho base e i0 z size bytes ht hi hz0 hz1 hz2 hzs hsz v n xs hs ((hown.alloc _).drew) _ _ 1 1 cs hx hr h1 h63 hbytes (by simp; omega) ?_
  intro v' w' hown' hg _
  exact h v' w' hown' ((only_drew (World.grownBy_alloc w0 _ _)).trans hg)
theorem own_step {W W' : World} {B e size n : Nat} {v : Value} {xs : List Value} (h : W.ownsRow B e size v n xs) (hb : Below W.heap.size W W') : W'.ownsRow B e size v n xs :=
  h.kept (only_of_below hb none) (by cases v.ownBlock <;> simp)
/-- Two rows, or a row and a block, of different element types do not share a block. -/
theorem own_far {W : World} {B e size n : Nat} {v : Value} {xs : List Value} {B' e' size' n' : Nat} {v' : Value} {xs' : List Value} (h : W.ownsRow B e size v n xs) (h' : W.ownsRow B' e' size' v' n' xs') (hne : e ≠ e') :
    v.ownBlock = none ∨ v.ownBlock ≠ v'.ownBlock := by
  rcases h.2 with ⟨rfl, _⟩ | ⟨g, cap, cur, rfl, _, hg, _⟩
  · exact .inl rfl
  · refine .inr fun e1 => ?_
    rcases h'.2 with ⟨rfl, _⟩ | ⟨g', cap', cur', rfl, _, hg', _⟩
    · simp [Value.ownBlock] at e1
    · simp only [Value.ownBlock, Option.some.injEq] at e1
      subst e1
      rw [hg] at hg'
      injection hg' with hg'
      injection hg' with _ h2
      exact hne h2
theorem blk_far {W : World} {B e size n : Nat} {v : Value} {xs : List Value} {g : Nat} {t : TypeId} {cs : Array Value} (h : Blk W g t cs) (h' : W.ownsRow B e size v n xs) (hne : e ≠ t) : some g ≠ v.ownBlock :=
  fun e1 => own_blk_ne h' h hne e1.symm
theorem own_shape {W : World} {B e size n : Nat} {v : Value} {xs : List Value} (h : W.ownsRow B e size v n xs) : ∃ A c, v = .slice A n c ∧ Reads W W.heap.size size A n xs := by
  rcases h.2 with ⟨rfl, rfl⟩ | ⟨g, cap, cur, rfl, _⟩
  · exact ⟨none, 0, rfl, Reads.of_own h⟩
  · exact ⟨_, cap, rfl, Reads.of_own h⟩
theorem blk_reads {W : World} {g n : Nat} {t : TypeId} {size : Nat} {xs : List Value} (h : Blk W g t xs.toArray) (hl : xs.length = n * size) : Reads W W.heap.size size (some ⟨g, 0, none⟩) n xs := by
  refine ⟨hl, fun _ => ⟨_, rfl, h.lt, fun j u hj => ?_⟩⟩
  rw [add_spot _ _ rfl]
  simp only [Nat.zero_add]
  rw [h.cell, List.getElem?_toArray]
  exact hj
/-- 'append(s, x)' of one element, the block of the element by its number. -/
theorem wpList_app1' {P : Program} {ops : Array Oper} {rest : List Oper} {o : Oper} {a : Act} {Q : Exit → Act → World → Prop} (w0 : World) (g0 : Nat) (hg0 : w0.heap.size = g0) (hgd : o.guard = none) (s x : Operand) (t : TypeId)
    (ho : o.op = .call { callee := .builtin .append, args := #[s, x], argTypes := #[t, t] })
    (base : Nat) (e : TypeId) (size bytes : Nat) (z : Value) (hinfo : (P.info? e).map (fun i => (i.zero, i.size, i.bytes)) = some (some z, size, bytes)) (ht : P.underlying t = some (.slice e)) (hzs : z.cells.size = size) (hsz : 0 < size)
    (v : Value) (n : Nat) (xs cs : List Value) (hs : a.eval s = v) (hown : w0.ownsRow base e size v n xs) (hcs : cs.length = size) (h1 : ∀ u ∈ cs, u.oneCell' = true)
    (hx : a.eval x = .slice (some ⟨g0, 0, none⟩) 1 1) (h63 : n + 1 ≤ maxLen) (hbytes : (n + 1) * bytes ≤ 140737488355328) (hbase : base ≤ w0.heap.size)
    (h : ∀ v' w', w'.ownsRow base e size v' (n + 1) (xs ++ cs) → w0.grownBy w' v.ownBlock → wpList P ops Q rest (a.put o.dst v') w') : wpList P ops Q (o :: rest) a (w0.alloc (.cells cs.toArray e)) := by
  subst hg0
  exact wpList_app1 w0 hgd s x t ho base e size bytes z hinfo ht hzs hsz v n xs cs hs hown hcs h1 hx h63 hbytes hbase h
theorem own_base {w : World} {B B' e size n : Nat} {v : Value} {xs : List Value} (h : w.ownsRow B' e size v n xs) (hB : B ≤ B') : w.ownsRow B e size v n xs := by
  refine ⟨h.1, ?_⟩
  rcases h.2 with h2 | ⟨g, cap, cur, hv, hb, rest⟩
  · exact .inl h2
  · exact .inr ⟨g, cap, cur, hv, Nat.le_trans hB hb, rest⟩
theorem Blk.keep {w w' : World} {g : Nat} {t : TypeId} {cs : Array Value} (h : Blk w g t cs) (he : w'.heap[g]? = w.heap[g]?) : Blk w' g t cs := he.trans h
theorem grew_set {w w1 : World} {row : Option Nat} (h : w.grownBy w1 row) {p : Addr} (hp : w.heap.size ≤ p.block) (u : Value) : w.grownBy (w1.setCell p u) row := by
  obtain ⟨h1, h2, h3, h4, h5⟩ := h
  refine ⟨h1, h2, h3, by simpa using h4, fun k hk hne => ?_⟩
  rw [heap_setCell_other _ _ _ _ (by omega)]
  exact h5 k hk hne
theorem cell_lt {w : World} {a : Addr} {v : Value} (h : w.cell? a = some v) : a.block < w.heap.size := by
  rcases Nat.lt_or_ge a.block w.heap.size with hlt | hge
  · exact hlt
  · unfold World.cell? at h
    rw [Array.getElem?_eq_none hge] at h
    simp at h
theorem own_slice {w : World} {base : Nat} {e : TypeId} {size n : Nat} {v : Value} {xs : List Value} (h : w.ownsRow base e size v n xs) : ∃ A cap, v = .slice A n cap ∧ Reads w w.heap.size size A n xs := by
  have h0 := h
  rcases h.2 with ⟨rfl, rfl⟩ | ⟨g, cap, cur, rfl, _⟩
  · exact ⟨_, _, rfl, Reads.of_own h0⟩
  · exact ⟨_, _, rfl, Reads.of_own h0⟩
theorem ints_app (k : IntKind) (xs ys : List Int) : ints k (xs ++ ys) = ints k xs ++ ints k ys := by simp [ints]
theorem ints_take (k : IntKind) (xs : List Int) (j : Nat) : ints k (xs.take j) = (ints k xs).take j := by simp [ints, List.map_take]
theorem ints_drop (k : IntKind) (xs : List Int) (j : Nat) : ints k (xs.drop j) = (ints k xs).drop j := by simp [ints, List.map_drop]
theorem own_cap {w : World} {base : Nat} {e : TypeId} {size n cap : Nat} {A : Option Addr} {xs : List Value} (h : w.ownsRow base e size (.slice A n cap) n xs) (hn : 0 < n) : n ≤ cap := by
  rcases h.2 with ⟨e1, rfl⟩ | ⟨g, cap', cur, e1, _, _, h1, _⟩
  · omega
  · injection e1 with _ _ e2
    omega
end Go.Proofs.Ytfimgkjdfjlkhaa
