import Derived.Test.YthclmacnmbmepaaWp
import Derived.Test.YthclmacnmbmepaaSel
import Derived.DeepKeys4
import Derived.Defers
import Derived.Laws.BitsAllLaws
import Derived.Laws.ShiftsVarLaws
namespace Go.Proofs.Ythclmacnmbmepaa
open Go.RowKit Bel Go.Maps Go.Shelf

theorem laidOut_ : laidOutB Try.prog = true := by kernel_rfl
theorem row79 : (79 : TypeId) < Try.prog.types.size := of_decide_eq_true (by kernel_rfl)
theorem wide79 : (match Try.prog.underlying 79 with | some (.array _ _) | some (.struct _) => true | _ => false) = true := by rw [Try.underlying79]
theorem law79 : Keyed Try.prog 79 := Keyed.of_law (deep_law_laid laidOut_ (m := 3) (by omega) row79 (by kernel_rfl) wide79)
theorem keyType79 : Try.prog.keyType 79 = true := by kernel_rfl
theorem cells79 : Try.prog.cellsOf 79 = 2 := by kernel_rfl
theorem cells3 : Try.prog.cellsOf 3 = 1 := by kernel_rfl
theorem cells77 : Try.prog.cellsOf 77 = 1 := by kernel_rfl
theorem key79 {a : Int} {b : Int} (ha : (Lit.int .i64 a).wf = true) (hb : (Lit.int .u16 b).wf = true) : keyOf Try.prog 79 (.agg #[.int .i64 a, .int .u16 b]) = some (.string (keyBytes [.int .i64 a, .int .u16 b])) := by
  have hk : ∀ d : Nat, Try.prog.keyLits (d + 2) 79 [.int .i64 a, .int .u16 b] = some [.int .i64 a, .int .u16 b] := fun d => by
    simp [Program.keyLits, Try.underlying79, cells79, Try.underlying3, Try.underlying77, ha, hb, cells3, cells77]
  obtain ⟨m, hm⟩ : ∃ m, Try.prog.types.size + 1 = m + 2 := ⟨Try.prog.types.size - 1, by have : (79 : Nat) < Try.prog.types.size := row79; omega⟩
  unfold keyOf
  rw [Try.underlying79, hm]
  simp only [keyType79, Value.formed, Try.underlying79, cells79, Value.cells]
  rw [hk m]
  rfl

/-- A state's key. -/
def kst (a b : Nat) : Lit := .string (keyBytes [.int .i64 a, .int .u16 b])
def stv (a b : Nat) : Value := .agg #[.int .i64 (a : Int), .int .u16 (b : Int)]
theorem wf_i64 {x : Int} (h0 : 0 ≤ x) (h1 : x ≤ 1000000) : (Lit.int .i64 x).wf = true := by
  simp only [Lit.wf, IntKind.min, IntKind.max, IntKind.bits, IntKind.signed]
  simp; omega
theorem wf_at {a : Nat} (h : a ≤ 14) : (Lit.int .i64 (a : Int)).wf = true := wf_i64 (by omega) (by omega)
theorem wf_bits {b : Nat} (h : b < 2 ^ 14) : (Lit.int .u16 (b : Int)).wf = true := by
  simp only [Lit.wf, IntKind.min, IntKind.max, IntKind.bits, IntKind.signed]
  simp; omega
theorem keyOf_st {a b : Nat} (ha : a ≤ 14) (hb : b < 2 ^ 14) : keyOf Try.prog 79 (stv a b) = some (kst a b) := key79 (wf_at ha) (wf_bits hb)
theorem kst_ne {a b a' b' : Nat} (ha : a ≤ 14) (hb : b < 2 ^ 14) (ha' : a' ≤ 14) (hb' : b' < 2 ^ 14) (h : ¬ (a = a' ∧ b = b')) : kst a b ≠ kst a' b' := fun e => h (by
  have h1 := keyOf_st ha hb
  have h2 := keyOf_st ha' hb'
  rw [e] at h1
  have := law79.inj h1 h2
  unfold stv at this
  injection this with this
  simp at this
  omega)

/-- Block b is what is known of states, of at most n entries. -/
def Memo (s : Nat) (tr ks : List Int) (w : World) (g n : Nat) : Prop :=
  ∃ D : DataW Unit, w.ownsMap Try.prog 79 (plainElem Try.prog 3) g n D ∧
    ∀ a b : Nat, a ≤ 14 → b < 2 ^ 14 → Maps.has D (kst a b) = true → D.atKey (kst a b) (.lit (.int .i64 0)) = .lit (.int .i64 (W s tr ks a b))
section
variable {s : Nat} {tr ks : List Int} {w w' : World} {g n a b : Nat}
theorem Memo.made (w : World) : Memo s tr ks (w.alloc (.map #[] 0)) w.heap.size 0 :=
  ⟨.map [], World.ownsMap_made w _ _ _, fun _ _ _ _ h => by cases h⟩
theorem Memo.kept {row : Option Nat} (h : Memo s tr ks w g n) (hg : w.grownBy w' row) (hne : some g ≠ row) : Memo s tr ks w' g n := by
  obtain ⟨D, h1, h2⟩ := h
  exact ⟨D, h1.kept hg hne, h2⟩
theorem Memo.alloc (h : Memo s tr ks w g n) (o : Obj) : Memo s tr ks (w.alloc o) g n := h.kept (World.grownBy_alloc w o none) (by simp)
theorem Memo.setCell (h : Memo s tr ks w g n) {p : Addr} (hp : g ≠ p.block) (u : Value) : Memo s tr ks (w.setCell p u) g n := by
  obtain ⟨D, h1, h2⟩ := h
  exact ⟨D, h1.setCell hp u, h2⟩
theorem Memo.drewN (h : Memo s tr ks w g n) (q : Nat) : Memo s tr ks (w.drewN q) g n := h
theorem Memo.lt (h : Memo s tr ks w g n) : g < w.heap.size := by obtain ⟨D, h1, _⟩ := h; exact h1.lt
theorem Memo.mono {m : Nat} (h : Memo s tr ks w g n) (hm : n ≤ m) : Memo s tr ks w g m := by
  obtain ⟨D, h1, h2⟩ := h
  obtain ⟨es, clock, hb, F, hs, hD⟩ := h1
  exact ⟨D, ⟨es, clock, hb, F, Nat.le_trans hs hm, hD⟩, h2⟩
theorem Memo.look (h : Memo s tr ks w g n) (ha : a ≤ 14) (hb : b < 2 ^ 14) :
    (∃ v, (Instr.lookup 75 (.map (some g)) (stv a b) true).run Try.prog w = .ok (.tuple #[.int .i64 v, .bool false]) w) ∨
    (Instr.lookup 75 (.map (some g)) (stv a b) true).run Try.prog w = .ok (.tuple #[.int .i64 (W s tr ks a b), .bool true]) w := by
  obtain ⟨D, h1, h2⟩ := h
  obtain ⟨v, ps, hrun, hv⟩ := h1.look_ok law79 Try.underlying75 (zero3 w) (zd := .lit (.int .i64 0)) (zp := []) (plainElem_int Try.underlying3 (by rfl)) (keyOf_st ha hb)
  obtain ⟨c, rfl, hc, _⟩ := plainElem_int_inv Try.underlying3 hv
  cases hh : Maps.has D (kst a b) with
  | false => rw [hh] at hrun; exact Or.inl ⟨c, hrun⟩
  | true =>
    rw [h2 a b ha hb hh] at hc
    injection hc with hc _
    injection hc with hc
    injection hc with _ hc
    rw [hh, ← hc] at hrun
    exact Or.inr hrun
theorem Memo.put (h : Memo s tr ks w g n) (ha : a ≤ 14) (hb : b < 2 ^ 14) (ht : tr.length ≤ 14) (hn : n < maxLen) :
    ∃ w', (Instr.mapUpdate 75 (.map (some g)) (stv a b) (.int .i64 (W s tr ks a b))).run Try.prog w = .ok () w' ∧ Memo s tr ks w' g (n + 1) ∧ w.grownBy w' (some g) := by
  obtain ⟨D, h1, h2⟩ := h
  have hwl := W_le s tr ks a b
  obtain ⟨w', hrun, hown, hg⟩ := h1.update law79 Try.underlying75 hn (keyOf_st ha hb) (plainElem_int Try.underlying3 (a := (W s tr ks a b : Int)) (wf_i64 (by omega) (by omega)))
  have hkl := law79.key (keyOf_st ha hb)
  refine ⟨w', hrun, ⟨_, hown, fun a' b' ha' hb' hh => ?_⟩, hg⟩
  by_cases e : a' = a ∧ b' = b
  · rw [e.1, e.2]
    exact atKey_put_same h1.isMap hkl _ _
  · have hne := kst_ne ha' hb' ha hb e
    rw [has_put_other hne] at hh
    rw [atKey_put_other hne]
    exact h2 a' b' ha' hb' hh
end

theorem Memo.at_ {s : Nat} {tr ks : List Int} {w w' : World} {g n : Nat} (h : Memo s tr ks w g n) (he : w'.heap[g]? = w.heap[g]?) : Memo s tr ks w' g n := by
  obtain ⟨D, ⟨es, clock, hb, F, hs, hD⟩, h2⟩ := h
  exact ⟨D, ⟨es, clock, he.trans hb, F, hs, hD⟩, h2⟩

/-- Block g is the numbers of keys. -/
def NumM (w : World) (g n : Nat) (ks : List Int) : Prop :=
  ∃ D : DataW Unit, w.ownsMap Try.prog 45 (plainElem Try.prog 3) g n D ∧
    (∀ k, (Lit.int .u32 k).wf = true → Maps.has D (.int .u32 k) = decide (k ∈ ks) ∧ (k ∈ ks → D.atKey (.int .u32 k) (.lit (.int .i64 0)) = .lit (.int .i64 (ks.idxOf k)))) ∧ Maps.size D = ks.length
section
variable {w w' : World} {g n : Nat} {ks : List Int} {k : Int}
theorem NumM.made (w : World) : NumM (w.alloc (.map #[] 0)) w.heap.size 0 [] :=
  ⟨.map [], World.ownsMap_made w _ _ _, fun _ _ => ⟨rfl, fun h => by cases h⟩, rfl⟩
theorem NumM.at_ (h : NumM w g n ks) (he : w'.heap[g]? = w.heap[g]?) : NumM w' g n ks := by
  obtain ⟨D, ⟨es, clock, hb, F, hs, hD⟩, h2⟩ := h
  exact ⟨D, ⟨es, clock, he.trans hb, F, hs, hD⟩, h2⟩
theorem NumM.kept {row : Option Nat} (h : NumM w g n ks) (hg : w.grownBy w' row) (hne : some g ≠ row) : NumM w' g n ks := by
  obtain ⟨D, h1, h2⟩ := h
  exact ⟨D, h1.kept hg hne, h2⟩
theorem NumM.alloc (h : NumM w g n ks) (o : Obj) : NumM (w.alloc o) g n ks := h.kept (World.grownBy_alloc w o none) (by simp)
theorem NumM.lt (h : NumM w g n ks) : g < w.heap.size := by obtain ⟨D, h1, _⟩ := h; exact h1.lt
theorem NumM.len (h : NumM w g n ks) (ty : TypeId) : (Builtin.len_ #[56] ty #[.map (some g)]).run Try.prog w = .ok (.int .i64 ks.length) w := by
  obtain ⟨D, h1, _, h3⟩ := h
  rw [h1.len Try.underlying56, h3]
theorem NumM.is (h : NumM w g n ks) (hw : (Lit.int .u32 k).wf = true) : ∃ v, (Instr.lookup 56 (.map (some g)) (.int .u32 k) true).run Try.prog w = .ok (.tuple #[.int .i64 v, .bool (decide (k ∈ ks))]) w := by
  obtain ⟨D, h1, h2, _⟩ := h
  obtain ⟨v, ps, hrun, hv⟩ := h1.look_ok law45 Try.underlying56 (zero3 w) (zd := .lit (.int .i64 0)) (zp := []) (plainElem_int Try.underlying3 (by rfl)) (keyOf_int_mk Try.underlying45 hw)
  obtain ⟨c, rfl, _⟩ := plainElem_int_inv Try.underlying3 hv
  rw [(h2 k hw).1] at hrun
  exact ⟨c, hrun⟩
theorem NumM.look (h : NumM w g n ks) (hw : (Lit.int .u32 k).wf = true) (hk : k ∈ ks) : (Instr.lookup 56 (.map (some g)) (.int .u32 k) false).run Try.prog w = .ok (.int .i64 (ks.idxOf k)) w := by
  obtain ⟨D, h1, h2, _⟩ := h
  obtain ⟨v, ps, hrun, hv⟩ := h1.lookup law45 Try.underlying56 (zero3 w) (zd := .lit (.int .i64 0)) (zp := []) (plainElem_int Try.underlying3 (by rfl)) (keyOf_int_mk Try.underlying45 hw)
  obtain ⟨c, rfl, hc, _⟩ := plainElem_int_inv Try.underlying3 hv
  rw [(h2 k hw).2 hk] at hc
  injection hc with hc _
  injection hc with hc
  injection hc with _ hc
  rw [hrun, ← hc]
theorem NumM.put (h : NumM w g n ks) (hw : (Lit.int .u32 k).wf = true) (hk : k ∉ ks) (hl : ks.length ≤ 1000) (hn : n < maxLen) :
    ∃ w', (Instr.mapUpdate 56 (.map (some g)) (.int .u32 k) (.int .i64 ks.length)).run Try.prog w = .ok () w' ∧ NumM w' g (n + 1) (ks ++ [k]) ∧ w.grownBy w' (some g) := by
  obtain ⟨D, h1, h2, h3⟩ := h
  obtain ⟨w', hrun, hown, hg⟩ := h1.update law45 Try.underlying56 hn (keyOf_int_mk Try.underlying45 hw) (plainElem_int Try.underlying3 (a := (ks.length : Int)) (wf_i64 (by omega) (by omega)))
  have hkl := law45.key (keyOf_int_mk (k := 45) Try.underlying45 hw)
  refine ⟨w', hrun, ⟨_, hown, fun j hj => ?_, ?_⟩, hg⟩
  · by_cases e : j = k
    · subst e
      rw [has_put_same h1.isMap hkl, atKey_put_same h1.isMap hkl]
      refine ⟨by simp, fun _ => ?_⟩
      rw [List.idxOf_append, if_neg hk]
      simp
    · rw [has_put_other (lit_ne e), atKey_put_other (lit_ne e)]
      refine ⟨by rw [(h2 j hj).1]; simp [e], fun hm => ?_⟩
      have hm' : j ∈ ks := by simpa [e] using hm
      rw [(h2 j hj).2 hm', List.idxOf_append, if_pos hm']
  · rw [size_put (h1.tidy law45), (h2 k hw).1, h3]
    simp [hk]
end
end Go.Proofs.Ythclmacnmbmepaa
