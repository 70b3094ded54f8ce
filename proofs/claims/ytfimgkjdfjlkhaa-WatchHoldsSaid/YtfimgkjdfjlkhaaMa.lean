/- A map from whole numbers to pointers at heads of blocks. At most maxLen entries. -/
import Derived.Test.YtfimgkjdfjlkhaaHk
import Derived.Maps.RangeWalk
import Derived.Maps.OwnOps
import Derived.Maps.OwnSet
namespace Go.Proofs.Ytfimgkjdfjlkhaa
open Go.RowKit Go.Maps

theorem law3 : Keyed Try.prog 3 := int_keyed Try.underlying3
def ptrV : Option Nat → Value
  | none => .pointer none
  | some g => .pointer (some ⟨g, 0, none⟩)
def rd (o : Option Nat) : DataW Unit := .lit (.int .i64 (match o with | none => 0 | some g => (g : Int) + 1))
theorem rd_inj {o o' : Option Nat} (h : rd o = rd o') : o = o' := by
  unfold rd at h
  injection h with h
  injection h with _ h
  cases o <;> cases o' <;> simp at h ⊢ <;> omega
/-- How a pointer reads as an element. -/
def ptrElem (v : Value) : Option (DataW Unit × List MemPlace) := match v with
  | .pointer none => some (rd none, [])
  | .pointer (some ⟨g, 0, none⟩) => some (rd (some g), [])
  | _ => none
theorem ptrElem_mk (o : Option Nat) : ptrElem (ptrV o) = some (rd o, []) := by cases o <;> rfl
theorem ptrElem_inv {v : Value} {y : DataW Unit × List MemPlace} (h : ptrElem v = some y) : ∃ o, v = ptrV o ∧ y = (rd o, []) := by
  unfold ptrElem at h
  split at h
  · exact ⟨none, rfl, (Option.some.inj h).symm⟩
  · rename_i g
    exact ⟨some g, rfl, (Option.some.inj h).symm⟩
  · cases h
def ilit (k : Int) : Lit := .int .i64 k
theorem zero74 (w : World) : (zeroValue 74).run Try.prog w = .ok (.pointer none) w := by kernel_rfl
/-- Block b is the map F, of c entries. -/
def MapIs (w : World) (b n : Nat) (F : Int → Option Nat) (c : Nat) : Prop :=
  ∃ D : DataW Unit, w.ownsMap Try.prog 3 ptrElem b n D ∧ (∀ k, (ilit k).wf = true → Maps.has D (ilit k) = (F k).isSome ∧ D.atKey (ilit k) (rd none) = rd (F k)) ∧ Maps.size D = c
section
variable {w w' : World} {b n c : Nat} {F : Int → Option Nat} {k : Int}
theorem MapIs.made (w : World) : MapIs (w.alloc (.map #[] 0)) w.heap.size 0 (fun _ => none) 0 :=
  ⟨.map [], World.ownsMap_made w _ _ _, fun _ _ => ⟨rfl, rfl⟩, rfl⟩
theorem MapIs.at_ (h : MapIs w b n F c) (he : w'.heap[b]? = w.heap[b]?) : MapIs w' b n F c := by
  obtain ⟨D, ⟨es, clock, hb, F, hs, hD⟩, h2⟩ := h
  exact ⟨D, ⟨es, clock, he.trans hb, F, hs, hD⟩, h2⟩
theorem MapIs.lt (h : MapIs w b n F c) : b < w.heap.size := by obtain ⟨D, h1, _⟩ := h; exact h1.lt
theorem MapIs.mono {n' : Nat} (h : MapIs w b n F c) (hn : n ≤ n') : MapIs w b n' F c := by
  obtain ⟨D, h1, h2⟩ := h
  exact ⟨D, h1.mono hn, h2⟩
theorem MapIs.len (h : MapIs w b n F c) (ty : TypeId) : (Builtin.len_ #[34] ty #[.map (some b)]).run Try.prog w = .ok (.int .i64 c) w := by
  obtain ⟨D, h1, _, h3⟩ := h
  rw [h1.len Try.underlying34, h3]
theorem MapIs.look (h : MapIs w b n F c) (hk : (ilit k).wf = true) : (Instr.lookup 34 (.map (some b)) (.int .i64 k) false).run Try.prog w = .ok (ptrV (F k)) w := by
  obtain ⟨D, h1, h2, _⟩ := h
  obtain ⟨v, ps, hrun, hv⟩ := h1.lookup law3 Try.underlying34 (zero74 w) (zd := rd none) (zp := []) (ptrElem_mk none) (keyOf_int_mk Try.underlying3 hk)
  obtain ⟨o, rfl, hy⟩ := ptrElem_inv hv
  have h4 := (h2 k hk).2
  have h5 : D.atKey (ilit k) (rd none) = rd o := (Prod.mk.inj hy).1
  rw [h4] at h5
  rw [hrun, rd_inj h5]
theorem ilit_ne {k k' : Int} (h : k ≠ k') : ilit k ≠ ilit k' := fun e => h (by injection e)
def upd (F : Int → Option Nat) (k : Int) (o : Option Nat) : Int → Option Nat := fun j => if j = k then o else F j
theorem MapIs.put (h : MapIs w b n F c) (hk : (ilit k).wf = true) (hn : n < maxLen) (hF : F k = none) (g : Nat) :
    ∃ w', (Instr.mapUpdate 34 (.map (some b)) (.int .i64 k) (.pointer (some ⟨g, 0, none⟩))).run Try.prog w = .ok () w' ∧ MapIs w' b (n + 1) (upd F k (some g)) (c + 1) ∧ w.grownBy w' (some b) := by
  obtain ⟨D, h1, h2, h3⟩ := h
  obtain ⟨w', hrun, hown, hg⟩ := h1.update law3 Try.underlying34 hn (keyOf_int_mk Try.underlying3 hk) (ptrElem_mk (some g))
  have hkl := law3.key (keyOf_int_mk (k := 3) Try.underlying3 hk)
  refine ⟨w', hrun, ⟨_, hown, fun j hj => ?_, ?_⟩, hg⟩
  · by_cases e : j = k
    · subst e
      have h4 := has_put_same h1.isMap hkl (rd (some g))
      have h5 := atKey_put_same h1.isMap hkl (rd (some g)) (rd none)
      unfold ilit at *
      exact ⟨by rw [h4]; simp [upd], by rw [h5]; simp [upd]⟩
    · have h4 := has_put_other (D := D) (ilit_ne e) (rd (some g))
      have h5 := atKey_put_other (D := D) (ilit_ne e) (rd (some g)) (rd none)
      have := h2 j hj
      unfold ilit at *
      exact ⟨by rw [h4]; simpa [upd, e] using this.1, by rw [h5]; simpa [upd, e] using this.2⟩
  · have hh := (h2 k hk).1
    rw [hF] at hh
    unfold ilit at hh
    rw [size_put (h1.tidy law3), hh, h3]
    simp
theorem MapIs.del (h : MapIs w b n F c) (hk : (ilit k).wf = true) (hF : (F k).isSome = true) (ty : TypeId) :
    ∃ w', (Builtin.delete_ #[34, 3] ty #[.map (some b), .int .i64 k]).run Try.prog w = .ok (.tuple #[]) w' ∧ MapIs w' b n (upd F k none) (c - 1) ∧ w.grownBy w' (some b) := by
  obtain ⟨D, h1, h2, h3⟩ := h
  obtain ⟨w', hrun, hown, ht⟩ := h1.drop law3 Try.underlying34 (keyOf_int_mk Try.underlying3 hk) ty
  refine ⟨w', hrun, ⟨_, hown, fun j hj => ?_, ?_⟩, ht.grown⟩
  · by_cases e : j = k
    · subst e
      have h4 := has_del_same (D := D) (k := ilit j)
      have h5 := atKey_del_same (D := D) (k := ilit j) (rd none)
      unfold ilit at *
      exact ⟨by rw [h4]; simp [upd], by rw [h5]; simp [upd]⟩
    · have h4 := has_del_other (D := D) (ilit_ne e)
      have h5 := atKey_del_other (D := D) (ilit_ne e) (rd none)
      have := h2 j hj
      unfold ilit at *
      exact ⟨by rw [h4]; simpa [upd, e] using this.1, by rw [h5]; simpa [upd, e] using this.2⟩
  · have hh := (h2 k hk).1
    rw [hF] at hh
    have := size_del (h1.tidy law3) (k := ilit k)
    rw [hh] at this
    unfold ilit at this
    simp at this
    omega
end
end Go.Proofs.Ytfimgkjdfjlkhaa
