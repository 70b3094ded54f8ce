import Derived.Test.YthclmacnmbmepaaLc
import Derived.IntWalk
import Derived.Deep.CutRange
import Derived.Deep.DeepCutAuto
namespace Go.Proofs.Ythclmacnmbmepaa
open Go.ChangeShapes Go.WideShapes Go.ChangeAt Go.RowKit Bel

theorem cells5 : Try.prog.cellsOf 5 = 1 := by kernel_rfl
section
variable {H : Type} {enc : TypeId × Value → H}
/-- A []uint8 that came in. -/
theorem read_u8 {W : World} {r : Reach} {b0 : Nat} {v : Value} {d : DataW H} {p : List MemPlace} (hval : Value.okWide Try.prog W r b0 47 v) (h : DataW.Trod enc Try.prog W 0 (fun _ => true) true 47 v d p) :
    ∃ A n c tr, v = .slice A n c ∧ Reads W W.heap.size 1 A n (ints .u8 tr) ∧ (∀ x ∈ tr, (Lit.int .u8 x).wf = true) ∧ n ≤ maxLen := by
  obtain ⟨A, n, c, rfl⟩ := okWide_slice Try.underlying47 hval
  obtain ⟨fuel, hf⟩ := h
  rcases open_ints Try.underlying47 Try.underlying5 cells5 hf with ⟨hcs, hx⟩ | ⟨a, len', cap', zs, hcs, _, hl, hm, hz, hx, hcell, hwz⟩
  · simp [Value.cells] at hcs
    obtain ⟨rfl, rfl, rfl⟩ := hcs
    exact ⟨_, _, _, [], rfl, Reads.none_, by simp, by unfold maxLen; omega⟩
  · simp [Value.cells] at hcs
    obtain ⟨rfl, rfl, rfl⟩ := hcs
    simp only [if_true] at hz
    refine ⟨_, _, _, zs.take n, rfl, ⟨by simp [ints]; omega, fun hn => ⟨a, rfl, ?_, fun j u hu => ?_⟩⟩, fun x hx => hwz x (List.mem_of_mem_take hx), by omega⟩
    · have := cell_lt (hcell 0 (by omega))
      rwa [block_of_add] at this
    · have hj : j < n := by
        have := (List.getElem?_eq_some_iff.1 hu).1
        simp [ints] at this; omega
      rw [hcell j (by omega)]
      unfold ints at hu
      rw [List.getElem?_map, List.getElem?_take_of_lt hj] at hu
      rw [List.getD]
      cases hz' : zs[j]? with
      | none => rw [hz'] at hu; cases hu
      | some z => rw [hz'] at hu; simpa using hu
end
/-- What is held of the world from request to request. -/
structure HM (w wr : World) (k : Nat) (vK : Value) (S : List Int) (vO : Value) (ts : List Turn) : Prop where
  below : Below w.heap.size w wr
  keys : wr.ownsRow w.heap.size 45 1 vK S.length (ints .u32 S)
  other : wr.ownsRow w.heap.size 50 3 vO k (tcells ts)
section
variable {w wr wX : World} {k : Nat} {vK vK' vO vO' : Value} {S S' : List Int} {ts ts' : List Turn}
theorem HM.start (h : Below w.heap.size w wr) : HM w wr 0 (.slice none 0 0) [] (.slice none 0 0) [] :=
  ⟨h, World.ownsRow_nil _ _ _ _, World.ownsRow_nil _ _ _ _⟩
theorem HM.more (h : HM w wr k vK S vO ts) (hg : wr.grownBy wX none) : HM w wX k vK S vO ts :=
  ⟨h.below.grown hg h.below.size (fun j hj => by cases hj), h.keys.kept hg (Classical.em _), h.other.kept hg (Classical.em _)⟩
theorem HM.turn (h : HM w wr k vK S vO ts) (hg : wr.grownBy wX vO.ownBlock) (ho : wX.ownsRow w.heap.size 50 3 vO' (k + 1) (tcells ts')) : HM w wX (k + 1) vK S vO' ts' :=
  ⟨below_grew h.below h.other hg, h.keys.kept hg (own_far h.keys h.other (by decide)), ho⟩
theorem HM.key (h : HM w wr k vK S vO ts) (hg : wr.grownBy wX vK.ownBlock) (ho : wX.ownsRow w.heap.size 45 1 vK' S'.length (ints .u32 S')) : HM w wX k vK' S' vO ts :=
  ⟨below_grew h.below h.keys hg, ho, h.other.kept hg (own_far h.other h.keys (by decide))⟩
end
theorem HM.swapped {w W3 w1 w7 : World} {k j s : Nat} {vK v1 v7 vO : Value} {S : List Int} {ts : List Turn} (h : HM w W3 k vK S vO ts) (hg1 : W3.drew.grownBy w1 none) (hown1 : w1.ownsRow w.heap.size 45 1 v1 j (ints .u32 (S.take j)))
    (hg7 : w1.grownBy w7 v1.ownBlock) (hown7 : w7.ownsRow w.heap.size 45 1 v7 (j + (s - (j + 1))) (ints .u32 (S.take j ++ S.drop (j + 1)))) (hs : S.length = s) (hj : j < S.length) : HM w w7 k v7 (S.take j ++ S.drop (j + 1)) vO ts := by
  have h1 : Below w.heap.size w w1 := h.below.drew.grown hg1 h.below.size (fun j hj => by cases hj)
  have o1 := World.ownsRow.kept (w := W3.drew) h.other hg1 (Classical.em _)
  have e : (S.take j ++ S.drop (j + 1)).length = j + (s - (j + 1)) := by simp; omega
  exact ⟨below_grew h1 hown1 hg7, by rw [e]; exact hown7, o1.kept hg7 (own_far o1 hown1 (by decide))⟩
theorem tcells_snoc (ts : List Turn) (x : Turn) : tcells (ts ++ [x]) = tcells ts ++ [.bool x.hit, .bool x.left, .int .u32 x.out] := by simp [tcells]
/-- Where the key was seen last. -/
def AtIs (S : List Int) (r : Int) (j : Nat) (a : Int) : Prop := -1 ≤ a ∧ a ≤ 1000 ∧ (0 ≤ a ↔ r ∈ S.take j)
theorem AtIs.start (S : List Int) (r : Int) : AtIs S r 0 (-1) := ⟨by omega, by omega, by simp⟩
theorem AtIs.yes {S : List Int} {r : Int} {j : Nat} (hj : j < S.length) (hl : j ≤ 1000) (e : nth S j = r) : AtIs S r (j + 1) j := by
  refine ⟨by omega, by omega, ⟨fun _ => ?_, fun _ => by omega⟩⟩
  rw [List.take_succ_eq_append_getElem hj, ← nth_eq hj, e]; simp
theorem AtIs.no {S : List Int} {r : Int} {j : Nat} {a : Int} (h : AtIs S r j a) (hj : j < S.length) (e : ¬ nth S j = r) : AtIs S r (j + 1) a := by
  refine ⟨h.1, h.2.1, h.2.2.trans ?_⟩
  rw [List.take_succ_eq_append_getElem hj, ← nth_eq hj]
  simp only [List.mem_append, List.mem_singleton]
  exact ⟨Or.inl, fun h => h.resolve_right (fun e2 => e e2.symm)⟩
theorem AtIs.all {S : List Int} {r a : Int} (h : AtIs S r S.length a) : 0 ≤ a ↔ r ∈ S := by
  have := h.2.2
  rwa [List.take_length] at this
theorem HM.made {w wr wx : World} {k : Nat} {vK vO : Value} {S : List Int} {ts : List Turn} (h : HM w wr k vK S vO ts) (hg : wr.grownBy wx none) (q i : Nat) (u : Value) : HM w ((wx.drewN q).setCell ⟨wr.heap.size, i, none⟩ u) k vK S vO ts :=
  h.more (grew_set (only_drewN hg q) (Nat.le_refl _) u)
theorem ints_app (k : IntKind) (xs ys : List Int) : ints k (xs ++ ys) = ints k xs ++ ints k ys := by simp [ints]
theorem ints_take (k : IntKind) (xs : List Int) (j : Nat) : ints k (xs.take j) = (ints k xs).take j := by simp [ints, List.map_take]
theorem ints_drop (k : IntKind) (xs : List Int) (j : Nat) : ints k (xs.drop j) = (ints k xs).drop j := by simp [ints, List.map_drop]
theorem u8_nat {x : Int} (h : (Lit.int .u8 x).wf = true) : ∃ y : Nat, x = y ∧ y ≤ 255 := by
  simp only [Lit.wf, IntKind.min, IntKind.max, IntKind.bits, IntKind.signed] at h
  simp at h
  exact ⟨x.toNat, by omega, by omega⟩
/-- 'append(v, zs...)' in a drawing region. -/
theorem app_two {ops : Array Oper} {o : Oper} {a : Act} {K : Act → World → Prop} {Q : Exit → Act → World → Prop} {E : Prop} (W : World) (hgd : o.guard = none) (s x : Operand)
    (ho : o.op = .call { callee := .builtin .append, args := #[s, x], argTypes := #[22, 22] }) (v : Value) (n : Nat) (S : List Int) (hs : a.eval s = v)
    (base B : Nat) (D : Option Addr) (m c : Nat) (T : List Int) (hx : a.eval x = .slice D m c) (hown : W.ownsRow base 45 1 v n (ints .u32 S)) (hr : Reads W B 1 D m (ints .u32 T)) (hn : n ≤ 4096) (hm : m ≤ 4096) (hbase : base ≤ W.heap.size)
    (h : ∀ v' w', w'.ownsRow base 45 1 v' (n + m) (ints .u32 (S ++ T)) → W.grownBy w' v.ownBlock → K (a.put o.dst v') w') :
    if Region.wanted o (yielded ops a.tmps) = true then Oper.wp Try.prog o a W K Q else E := by
  obtain ⟨i0, hi, hz0, hz1, hz2⟩ := info_parts info45
  refine step_append_any (w := W) hgd s x 22 ho base 45 i0 _ 1 4 Try.underlying22 hi hz0 hz1 hz2 rfl (by omega) v n (ints .u32 S) hs hown B D m c (ints .u32 T) hx hr (by simp [ints, Value.oneCell']) (by unfold maxLen; omega) (by omega) hbase ?_
  intro v' w' hown hg _
  exact h v' w' (by rw [ints_app]; exact hown) hg
theorem own_cap {w : World} {base : Nat} {e : TypeId} {size n cap : Nat} {A : Option Addr} {xs : List Value} (h : w.ownsRow base e size (.slice A n cap) n xs) (hn : 0 < n) : n ≤ cap := by
  rcases h.2 with ⟨e1, rfl⟩ | ⟨g, cap', cur, e1, _, _, h1, _⟩
  · omega
  · injection e1 with _ _ e2
    omega
theorem reads_take {w : World} {B n j : Nat} {A : Option Addr} {S : List Int} (h : Reads w B 1 A n (ints .u32 S)) (hj : j < n) : Reads w.drew B 1 A j (ints .u32 (S.take j)) := by
  have hl := h.int_len
  refine ⟨by simp [ints]; omega, fun hp => ?_⟩
  obtain ⟨ad, e, hb, hc⟩ := h.2 (by omega)
  refine ⟨ad, e, hb, fun i u hu => hc i u ?_⟩
  rw [ints_take] at hu
  have hi : i < j := by
    have := (List.getElem?_eq_some_iff.1 hu).1
    simp [ints] at this; omega
  rwa [List.getElem?_take_of_lt hi] at hu
theorem reads_drop {w : World} {B n j c : Nat} {A : Option Addr} {S : List Int} (h : Reads w B 1 A n (ints .u32 S)) (hj : j < n) (hc : n ≤ c) :
    Reads w B 1 (if c = j + 1 then A else A.map (·.add (j + 1))) (n - (j + 1)) (ints .u32 (S.drop (j + 1))) := by
  have := h.cut (k := j + 1) (cap := c) (by omega) hc
  simpa [ints_drop] using this
end Go.Proofs.Ythclmacnmbmepaa
