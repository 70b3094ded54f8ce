import Derived.Test.YthclmacnmbmepaaLa
namespace Go.Proofs.Ythclmacnmbmepaa
open Go.ChangeShapes Go.WideShapes Go.ChangeAt Go.RowKit Bel

theorem turns_len {w : World} {B n s : Nat} {A : Option Addr} {tr : List Int} (h : Reads w B 1 A n (ints .u32 tr)) : (tcells (turnsL s tr [])).length = n * 3 := by
  rw [tcells_len, turnsL_len, h.int_len]
theorem size_yes (s : Int) (h1 : 1 ≤ s) (h2 : s ≤ 1024) (w : World) : Calls Try.prog 15 #[.int .i64 s] w fun e w' => e = .returned (.bool true) ∧ w = w' := by
  have := size_any s w
  rwa [show decide (1 ≤ s ∧ s ≤ 1024) = true from by simp [h1, h2]] at this
theorem size_no (s : Int) (h : ¬ (1 ≤ s ∧ s ≤ 1024)) (w : World) : Calls Try.prog 15 #[.int .i64 s] w fun e w' => e = .returned (.bool false) ∧ w = w' := by
  have := size_any s w
  rwa [show decide (1 ≤ s ∧ s ≤ 1024) = false from decide_eq_false h] at this
theorem same_yes (A D : Option Addr) (n c m d : Nat) (xs : List Turn) (w : World) (B : Nat) (h : Reads w B 3 A n (tcells xs)) (h' : Reads w B 3 D m (tcells xs)) (hn : n ≤ 1000000) (hm : m ≤ 1000000) :
    Calls Try.prog 17 #[.slice A n c, .slice D m d] w fun e w' => e = .returned (.bool true) ∧ ∃ q, w' = w.drewN q := by
  have := same_any A D n c m d xs xs w B h h' hn hm
  simpa using this
theorem gives_yes (n : Int) (w : World) : Calls Try.prog 21 #[.int .i64 n, .int .i64 0, .int .i64 n] w fun r w' => r = .returned (.bool true) ∧ w = w' := by
  have := gives_any n 0 n w
  simpa using this
section
variable {H : Type} {enc : TypeId × Value → H}
theorem cells50 : Try.prog.cellsOf 50 = 3 := by kernel_rfl
def boolAt (w : World) (a : Addr) : Bool := match w.cell? a with
  | some (.bool b) => b
  | _ => false
def intAt (w : World) (a : Addr) : Int := match w.cell? a with
  | some (.int _ n) => n
  | _ => 0
theorem tcells_get {ts : List Turn} {j : Nat} {u : Value} (h : (tcells ts)[j]? = some u) : ∃ i, i < ts.length ∧ ((j = i * 3 ∧ u = .bool (tnth ts i).hit) ∨ (j = i * 3 + 1 ∧ u = .bool (tnth ts i).left) ∨ (j = i * 3 + 2 ∧ u = .int .u32 (tnth ts i).out)) := by
  have hj := (List.getElem?_eq_some_iff.1 h).1
  rw [tcells_len] at hj
  have hi : j / 3 < ts.length := by omega
  obtain ⟨h0, h1, h2⟩ := tcells_at ts (j / 3) hi
  refine ⟨j / 3, hi, ?_⟩
  have hc : j = j / 3 * 3 ∨ j = j / 3 * 3 + 1 ∨ j = j / 3 * 3 + 2 := by omega
  rcases hc with e | e | e
  · rw [← e] at h0; rw [h0] at h; exact Or.inl ⟨e, (Option.some.inj h).symm⟩
  · rw [← e] at h1; rw [h1] at h; exact Or.inr (Or.inl ⟨e, (Option.some.inj h).symm⟩)
  · rw [← e] at h2; rw [h2] at h; exact Or.inr (Or.inr ⟨e, (Option.some.inj h).symm⟩)
/-- A []api.Turn that came in. -/
theorem read_turns {W : World} {r : Reach} {b0 : Nat} {v : Value} {d : DataW H} {p : List MemPlace} (hval : Value.okWide Try.prog W r b0 31 v) (h : DataW.Trod enc Try.prog W 0 (fun _ => true) true 31 v d p) :
    ∃ A n c ts, v = .slice A n c ∧ Reads W W.heap.size 3 A n (tcells ts) ∧ (∀ x ∈ ts, (Lit.int .u32 x.out).wf = true) ∧ n ≤ maxLen := by
  obtain ⟨A, n, c, rfl⟩ := okWide_slice Try.underlying31 hval
  obtain ⟨fuel, hf⟩ := h
  rcases open_slice_fields Try.underlying31 Try.underlying50 (by kernel_rfl) (by rw [cells50]; rfl) hf with ⟨hcs, hx⟩ | ⟨a, len', cap', m, _, _, hcs, _, hl, hm, hmm, hx, hi⟩
  · simp [Value.cells] at hcs
    obtain ⟨rfl, rfl, rfl⟩ := hcs
    exact ⟨_, _, _, [], rfl, Reads.none_, by simp, by unfold maxLen; omega⟩
  · simp [Value.cells] at hcs
    obtain ⟨rfl, rfl, rfl⟩ := hcs
    simp only [if_true] at hmm
    have each : ∀ i, i < n → W.cell? (a.add (i * 3)) = some (.bool (boolAt W (a.add (i * 3)))) ∧ W.cell? (a.add (i * 3 + 1)) = some (.bool (boolAt W (a.add (i * 3 + 1)))) ∧
        W.cell? (a.add (i * 3 + 2)) = some (.int .u32 (intAt W (a.add (i * 3 + 2)))) ∧ (Lit.int .u32 (intAt W (a.add (i * 3 + 2)))).wf = true := by
      intro i hin
      obtain ⟨ys, k, _, _, _, hf⟩ := hi i (by omega)
      obtain ⟨v0, y0, hc0, _, ht0⟩ := hf 0 _ rfl
      obtain ⟨v1, y1, hc1, _, ht1⟩ := hf 1 _ rfl
      obtain ⟨v2, y2, hc2, _, ht2⟩ := hf 2 _ rfl
      obtain ⟨b0, e0, _⟩ := DataW.trod_bool Try.underlying4 ht0
      obtain ⟨b1, e1, _⟩ := DataW.trod_bool Try.underlying4 ht1
      obtain ⟨n2, e2, _, hw2⟩ := DataW.trod_int Try.underlying45 ht2
      have e0 : v0 = .bool b0 := by simpa using e0
      have e1 : v1 = .bool b1 := by simpa using e1
      have e2 : v2 = .int .u32 n2 := by simpa using e2
      have hc0 : W.cell? (a.add (i * 3)) = some v0 := hc0
      have hc1 : W.cell? (a.add (i * 3 + 1)) = some v1 := hc1
      have hc2 : W.cell? (a.add (i * 3 + 2)) = some v2 := hc2
      subst e0 e1 e2
      unfold boolAt intAt
      rw [hc0, hc1, hc2]
      exact ⟨rfl, rfl, rfl, hw2⟩
    let ts : List Turn := (List.range n).map fun i => ⟨boolAt W (a.add (i * 3)), boolAt W (a.add (i * 3 + 1)), intAt W (a.add (i * 3 + 2))⟩
    have hts : ts.length = n := by simp [ts]
    have hat : ∀ i, i < n → tnth ts i = ⟨boolAt W (a.add (i * 3)), boolAt W (a.add (i * 3 + 1)), intAt W (a.add (i * 3 + 2))⟩ := fun i hin => by
      rw [tnth_eq (by omega)]; simp [ts]
    refine ⟨_, _, _, ts, rfl, ⟨by rw [tcells_len, hts], fun hn => ⟨a, rfl, ?_, fun j u hu => ?_⟩⟩, fun x hx => ?_, by omega⟩
    · have := cell_lt (each 0 (by omega)).1
      rwa [block_of_add] at this
    · obtain ⟨i, hil, h⟩ := tcells_get hu
      rw [hat i (by omega)] at h
      obtain ⟨h0, h1, h2, _⟩ := each i (by omega)
      rcases h with ⟨rfl, rfl⟩ | ⟨rfl, rfl⟩ | ⟨rfl, rfl⟩
      · exact h0
      · exact h1
      · exact h2
    · obtain ⟨i, hil, rfl⟩ := List.mem_map.1 hx
      exact (each i (by simpa using hil)).2.2.2
end
end Go.Proofs.Ythclmacnmbmepaa
