import Derived.Test.YthclmacnmbmepaaWf
import Derived.RangeFuncBox
import Derived.RangeFuncWrites
import Derived.RangeFuncLeaves
import Derived.Shelf.Abstract
import Derived.OwnWalkIn
import Derived.TacticsInMore
import Derived.LoopNIn
import Derived.LoopIn
import Derived.Maps.OwnIn
namespace Go.Proofs.Ythclmacnmbmepaa
open Go.RowKit Bel Go.Maps

/-- Block b is a map from keys to numbers, of at most n entries. -/
def IMap (w : World) (b n : Nat) (m : Int → Option Int) : Prop :=
  ∃ D : DataW Unit, w.ownsMap Try.prog 45 (plainElem Try.prog 3) b n D ∧
    ∀ k, (Lit.int .u32 k).wf = true → Maps.has D (.int .u32 k) = (m k).isSome ∧ D.atKey (.int .u32 k) (.lit (.int .i64 0)) = .lit (.int .i64 ((m k).getD 0))
theorem law45 : Keyed Try.prog 45 := int_keyed Try.underlying45
theorem zero3 (w : World) : (zeroValue 3).run Try.prog w = .ok (.int .i64 0) w := by kernel_rfl
theorem IMap.made (w : World) : IMap (w.alloc (.map #[] 0)) w.heap.size 0 (fun _ => none) :=
  ⟨.map [], World.ownsMap_made w _ _ _, fun _ _ => ⟨rfl, rfl⟩⟩
theorem IMap.kept {w w' : World} {b n : Nat} {m : Int → Option Int} {row : Option Nat} (h : IMap w b n m) (hg : w.grownBy w' row) (hne : some b ≠ row) : IMap w' b n m := by
  obtain ⟨D, h1, h2⟩ := h
  exact ⟨D, h1.kept hg hne, h2⟩
theorem IMap.alloc {w : World} {b n : Nat} {m : Int → Option Int} (h : IMap w b n m) (o : Obj) : IMap (w.alloc o) b n m := h.kept (World.grownBy_alloc w o none) (by simp)
theorem IMap.lt {w : World} {b n : Nat} {m : Int → Option Int} (h : IMap w b n m) : b < w.heap.size := by obtain ⟨D, h1, _⟩ := h; exact h1.lt
theorem IMap.setCell {w : World} {b n : Nat} {m : Int → Option Int} (h : IMap w b n m) {p : Addr} (hp : b ≠ p.block) (u : Value) : IMap (w.setCell p u) b n m := by
  obtain ⟨D, h1, h2⟩ := h
  exact ⟨D, h1.setCell hp u, h2⟩
def putI (m : Int → Option Int) (key v : Int) : Int → Option Int := fun k => if k = key then some v else m k

section
variable {F : Fence} {nF : Nat} {w : World} {ops : Array Oper} {rest : List Oper} {o : Oper} {a : Act} {Q : Exit → Act → World → Prop}
theorem wpListIn_look_imap (hg : o.guard = none) (m x : Operand) (hop : o.op = Op.lookup 56 m x true) (b n : Nat) (f : Int → Option Int) (key : Int)
    (hm : a.eval m = .map (some b)) (hown : IMap w b n f) (hx : a.eval x = .int .u32 key) (hwf : (Lit.int .u32 key).wf = true) (v : Int) (bb : Bool) (hv : (f key).getD 0 = v) (hbb : (f key).isSome = bb)
    (hK : wpListIn F nF Try.prog ops Q rest (a.put o.dst (.tuple #[.int .i64 v, .bool bb])) w) :
    wpListIn F nF Try.prog ops Q (o :: rest) a w := by
  obtain ⟨D, h1, h2⟩ := hown
  obtain ⟨e1, e2⟩ := h2 key hwf
  refine wpListIn_lookup_own_ok_int w hg m x 56 hop 45 3 .i64 law45 Try.underlying56 Try.underlying3 (zero3 _) b n D hm h1 _ _ hx (keyOf_int_mk Try.underlying45 hwf) ?_
  intro c hc _
  rw [e2] at hc
  injection hc with hc
  injection hc with _ hc
  rw [hv] at hc
  subst hc
  rw [e1, hbb]
  exact hK
theorem wpListIn_put_imap (hg : o.guard = none) (m x v : Operand) (hop : o.op = Op.mapUpdate 56 m x v) (b n : Nat) (f : Int → Option Int) (key val : Int)
    (hm : a.eval m = .map (some b)) (hown : IMap w b n f) (hx : a.eval x = .int .u32 key) (hv : a.eval v = .int .i64 val) (hwf : (Lit.int .u32 key).wf = true) (hwv : (Lit.int .i64 val).wf = true) (hn : n < maxLen)
    (hK : ∀ w', IMap w' b (n + 1) (putI f key val) → w.grownBy w' (some b) → wpListIn F nF Try.prog ops Q rest (a.put o.dst undef) w') :
    wpListIn F nF Try.prog ops Q (o :: rest) a w := by
  obtain ⟨D, h1, h2⟩ := hown
  refine wpListIn_mapUpdate_own w hg m x v 56 hop 45 3 law45 Try.underlying56 _ b n D hm h1 hn _ _ _ hx hv (keyOf_int_mk Try.underlying45 hwf) _ [] (plainElem_int Try.underlying3 hwv) ?_
  intro w' hown' hgr
  refine hK w' ⟨_, hown', fun k hk => ?_⟩ hgr
  unfold putI
  by_cases e : k = key
  · subst e
    rw [if_pos rfl]
    exact ⟨has_put_same h1.isMap (law45.key (keyOf_int_mk Try.underlying45 hwf)) _, atKey_put_same h1.isMap (law45.key (keyOf_int_mk Try.underlying45 hwf)) _ _⟩
  · rw [if_neg e]
    have hne : (Lit.int .u32 k) ≠ (Lit.int .u32 key) := fun h => e (by injection h)
    rw [has_put_other hne, atKey_put_other hne]
    exact h2 k hk
end

/-- A request: its place, and its key. -/
abbrev Req (n : Nat) := { x : Nat × Int // x.1 < n ∧ (Lit.int .u32 x.2).wf = true }
/-- What a list of requests, each handled in turn, makes of the answers and of the map. -/
def outs {n : Nat} (pre : List (Req n)) : List Int × (Int → Option Int) :=
  pre.foldl (fun s x => (s.1.set x.1.1 ((s.2 x.1.2).getD n), putI s.2 x.1.2 x.1.1)) (List.replicate n 0, fun _ => none)
theorem outs_snoc {n : Nat} (pre : List (Req n)) (x : Req n) : outs (pre ++ [x]) = ((outs pre).1.set x.1.1 (((outs pre).2 x.1.2).getD n), putI (outs pre).2 x.1.2 x.1.1) := by simp [outs]
theorem outs_len {n : Nat} (pre : List (Req n)) : (outs pre).1.length = n := by
  have h : ∀ (l : List (Req n)) (s : List Int × (Int → Option Int)), (l.foldl (fun s x => (s.1.set x.1.1 ((s.2 x.1.2).getD n), putI s.2 x.1.2 x.1.1)) s).1.length = s.1.length := by
    intro l
    induction l with
    | nil => intro s; rfl
    | cons x l ih => intro s; rw [List.foldl_cons, ih]; simp
  unfold outs
  rw [h]; simp
/-- The requests from behind, j of them. -/
def backTo {tr : List Int} {n : Nat} (hl : tr.length = n) (hw : ∀ x ∈ tr, (Lit.int .u32 x).wf = true) : (j : Nat) → j ≤ n → List (Req n)
  | 0, _ => []
  | j + 1, h => backTo hl hw j (by omega) ++ [⟨(n - 1 - j, nth tr (n - 1 - j)), by show n - 1 - j < n; omega, hw _ (nth_mem (by omega))⟩]
theorem backTo_len {tr : List Int} {n : Nat} (hl : tr.length = n) (hw : ∀ x ∈ tr, (Lit.int .u32 x).wf = true) : ∀ (j : Nat) (hj : j ≤ n), (backTo hl hw j hj).length = j := by
  intro j
  induction j with
  | zero => intro _; rfl
  | succ j ih => intro h; rw [backTo, List.length_append, ih]; rfl

/-- What the requests from behind make of the answers and of the map. -/
theorem outs_back {tr : List Int} {n : Nat} (hl : tr.length = n) (hw : ∀ x ∈ tr, (Lit.int .u32 x).wf = true) : ∀ (j : Nat) (hj : j ≤ n),
    (∀ k, (outs (backTo hl hw j hj)).2 k = if nxt tr (n - j) k < n then some (nxt tr (n - j) k : Int) else none) ∧
    (∀ i, n - j ≤ i → i < n → nth (outs (backTo hl hw j hj)).1 i = (nxt tr (i + 1) (nth tr i) : Int)) := by
  intro j
  induction j with
  | zero =>
    intro _
    refine ⟨fun k => ?_, fun i h1 h2 => by omega⟩
    rw [nxt_end (by omega), if_neg (by omega)]
    rfl
  | succ j ih =>
    intro hj
    obtain ⟨h1, h2⟩ := ih (by omega)
    have hlen := outs_len (backTo hl hw j (by omega))
    rw [backTo, outs_snoc]
    have hi : n - 1 - j < tr.length := by omega
    have e : n - (j + 1) = n - 1 - j := by omega
    have e' : n - 1 - j + 1 = n - j := by omega
    refine ⟨fun k => ?_, fun i h3 h4 => ?_⟩
    · simp only [putI]
      by_cases hk : k = nth tr (n - 1 - j)
      · rw [if_pos hk, e, nxt_hit hi hk.symm, if_pos (by omega)]
      · rw [if_neg hk, h1 k, e, nxt_miss hi (Ne.symm hk), e']
    · simp only
      by_cases hi' : i = n - 1 - j
      · subst hi'
        rw [nth_eq (by rw [List.length_set, hlen]; omega), List.getElem_set_self]
        rw [h1, e']
        by_cases hlt : nxt tr (n - j) (nth tr (n - 1 - j)) < n
        · rw [if_pos hlt]; rfl
        · rw [if_neg hlt]
          have : nxt tr (n - j) (nth tr (n - 1 - j)) ≤ n := by
            unfold nxt
            have := List.idxOf_le_length (a := nth tr (n - 1 - j)) (l := tr.drop (n - j))
            simp at this; omega
          show ((n : Nat) : Int) = _
          omega
      · have := h2 i (by omega) h4
        rw [nth_eq (by rw [List.length_set, hlen]; omega), List.getElem_set_ne (Ne.symm hi'), ← nth_eq (by rw [hlen]; omega)]
        exact this
theorem outs_all {tr : List Int} {n : Nat} (hl : tr.length = n) (hw : ∀ x ∈ tr, (Lit.int .u32 x).wf = true) : (outs (backTo hl hw n (Nat.le_refl _))).1 = nextsTo tr n := by
  have hlen := outs_len (backTo hl hw n (Nat.le_refl _))
  refine nth_ext (by rw [hlen, nextsTo_len]) fun i hi => ?_
  rw [(outs_back hl hw n (Nat.le_refl _)).2 i (by omega) (by omega)]
  have h2 : nth (nextsTo tr n) i = (nextsTo tr n)[i]'(by rw [nextsTo_len]; omega) := nth_eq _
  rw [h2]
  simp [nextsTo]
/-- The map holds places. -/
theorem outs_wf {n : Nat} (pre : List (Req n)) : ∀ k v, (outs pre).2 k = some v → 0 ≤ v ∧ v < n := by
  have h : ∀ (l : List (Req n)) (s : List Int × (Int → Option Int)), (∀ k v, s.2 k = some v → 0 ≤ v ∧ v < n) →
      ∀ k v, (l.foldl (fun s x => (s.1.set x.1.1 ((s.2 x.1.2).getD n), putI s.2 x.1.2 x.1.1)) s).2 k = some v → 0 ≤ v ∧ v < n := by
    intro l
    induction l with
    | nil => intro s hs; exact hs
    | cons x l ih =>
      intro s hs
      rw [List.foldl_cons]
      refine ih _ fun k v hk => ?_
      simp only [putI] at hk
      split at hk
      · injection hk with hk
        have := x.2.1
        omega
      · exact hs k v hk
  exact h pre _ (fun k v hk => by cases hk)

/-- What a round keeps: all that lay below n₀, and one cell. -/
def KpB (n₀ Bs : Nat) (W W' : World) : Prop := Below n₀ W W' ∧ ∀ v, W.cell? ⟨Bs, 0, none⟩ = some v → W'.cell? ⟨Bs, 0, none⟩ = some v
theorem KpB.t {n₀ Bs : Nat} {X Y Z : World} (h : KpB n₀ Bs X Y) (k : KpB n₀ Bs Y Z) : KpB n₀ Bs X Z := ⟨h.1.trans k.1, fun v hv => k.2 v (h.2 v hv)⟩
theorem KpB.b {n₀ Bs : Nat} {w : World} (hn : n₀ ≤ w.heap.size) (hB : Bs < w.heap.size) (W : World) (l : Nat) (o o' : Obj) (hl : w.heap.size ≤ l) (ho : W.heap[l]? = some o) (hc : o.isCells = false) (hwk : o.isWalk = false) : KpB n₀ Bs W (W.putObj l o') :=
  ⟨belowK_b hn W l o o' hl ho hc hwk, fun v hv => by rw [World.cell?_of_block (World.putObj_heap_other (by show Bs ≠ l; omega))]; exact hv⟩

attribute [local go_sem] Oper.semAt_some
set_option maxRecDepth 100000 in
set_option maxHeartbeats 2000000 in
/-- slices.Backward's closure: for every loop body that keeps what lay below n₀. -/
theorem back1_in (l Bs n₀ m c : Nat) (A : Option Addr) (tr : List Int) (hl : tr.length = m) (hw : ∀ x ∈ tr, (Lit.int .u32 x).wf = true) (hm : m ≤ 1000000) (J Jx : List (Req m) → World → Prop)
    (hY : ∀ pre x W, J pre W → pre.length < m → YieldAt Fence.wide 5 Try.prog l #[.int .i64 (x.1.1 : Int), .int .u32 x.1.2] W fun e W' =>
      (e = .returned (.bool true) ∧ J (pre ++ [x]) W' ∧ KpB n₀ Bs W W') ∨ (e = .returned (.bool false) ∧ Jx (pre ++ [x]) W'))
    (W : World) (hBs : W.cell? ⟨Bs, 0, none⟩ = some (.slice A m c)) (hr : Reads W n₀ 1 A m (ints .u32 tr)) (h0 : J [] W) :
    CallsIn Fence.wide 6 Try.prog 44 #[.func (.yield l) #[] #[], .pointer (some ⟨Bs, 0, none⟩)] W fun e W' => (∃ v, e = .returned v) ∧
      ((∃ ys, ys = backTo hl hw m (Nat.le_refl _) ∧ J ys W') ∨ (∃ pre : List (Req m), True ∧ Jx pre W')) := by
  have HBS := Lib.hid hBs
  refine callsIn_of_wp Try.func44 rfl trivial ?_ rfl
  simp only [Try.ntmps44, List.size_toArray, List.length_cons, List.length_nil, Nat.reduceAdd, Nat.reduceSub, Array.replicate_succ, Array.replicate_zero, List.push_toArray, List.append_toArray, List.nil_append, List.cons_append]
  gi_wp2
  gi_loopw [3] (fun i wr => ∃ (k : Nat) (hk : k ≤ m), i = .int .i64 ((m : Int) - 1 - k) ∧ J (backTo hl hw k hk) wr ∧ KpB n₀ Bs W wr)
    (fun i _ => (intOf i + 1).toNat)
  case atStart => exact ⟨0, Nat.zero_le _, by simp, h0, Below.refl _ _, fun _ h => h⟩
  case round =>
    obtain ⟨k, hk, rfl, hJs, hnx⟩ := hrel
    by_cases hlt : k < m
    · obtain ⟨i, hi⟩ : ∃ i : Nat, i = m - 1 - k := ⟨_, rfl⟩
      have e1 : (m : Int) - 1 - k = (i : Int) := by omega
      rw [e1]
      have him : i < m := by omega
      have hwf := hw _ (nth_mem (zs := tr) (j := i) (by omega))
      obtain ⟨fn, tmps, assign, body, hy, hR⟩ := hY _ ⟨(i, nth tr i), him, hwf⟩ wr hJs (by rw [backTo_len]; exact hlt)
      dsimp only at hy
      have hBr : wr.cell? ⟨Bs, 0, none⟩ = some (.slice A m c) := hnx.2 _ HBS.out
      obtain ⟨b, o, rfl, _, hc⟩ := (hr.below hnx.1).int_at him
      clear hBs
      have HI := Lib.hid hi
      have HE := Lib.hid e1
      clear hi e1
      gi_wp2
      refine hR.mono ?_
      rintro e W3 (⟨rfl, hJ3, hk3⟩ | ⟨rfl, hJx3⟩)
      · gi_wp2
        go_roundw
        case rel =>
          refine ⟨k + 1, hlt, ?_, ?_, hnx.t hk3⟩
          · have := HE.out; exact congrArg (Value.int .i64) (by omega)
          · have h2 := HI.out
            subst h2
            exact hJ3
        case measure => simp [intOf]
      · gi_wp2
        refine bodyPost_ret (results_none rfl _ _ _) rfl ?_
        exact ⟨⟨_, rfl⟩, .inr ⟨_, trivial, hJx3⟩⟩
    · obtain rfl : k = m := by omega
      have e1 : (k : Int) - 1 - k = -1 := by omega
      rw [e1]
      clear e1
      gi_wp2
      go_end0
      exact ⟨⟨_, rfl⟩, .inl ⟨_, rfl, hJs⟩⟩

theorem back_in (A : Option Addr) (n c : Nat) (w : World) (nf : Nat) :
    CallsIn Fence.wide nf Try.prog 30 #[.slice A n c] w fun e w' => e = .returned (.func (.func 44) #[] #[.pointer (some ⟨w.heap.size, 0, none⟩)]) ∧ w' = w.alloc (.cells #[.slice A n c] 22) := by
  refine callsIn_of_wp Try.func30 rfl trivial ?_ rfl
  simp only [Try.ntmps30, List.size_toArray, List.length_cons, List.length_nil, Nat.reduceAdd, Nat.reduceSub, Array.replicate_succ, Array.replicate_zero, List.push_toArray, List.append_toArray, List.nil_append, List.cons_append]
  gi_wp2
  go_ret
  exact ⟨rfl, rfl⟩

theorem back_stops (Bs m c : Nat) (A : Option Addr) (tr : List Int) (hl : tr.length = m) (hw : ∀ x ∈ tr, (Lit.int .u32 x).wf = true) (hm : m ≤ 1000000) (n₀ : Nat) (w : World)
    (hbs : Bs < w.heap.size) (hn₀ : n₀ ≤ w.heap.size) (hc : w.cell? ⟨Bs, 0, none⟩ = some (.slice A m c)) (hr : Reads w n₀ 1 A m (ints .u32 tr)) :
    SeqStopsK Fence.wide 6 Try.prog 44 #[.pointer (some ⟨Bs, 0, none⟩)] (fun x : Req m => #[.int .i64 (x.1.1 : Int), .int .u32 x.1.2]) (KpB n₀ Bs) (fun ys => ys = backTo hl hw m (Nat.le_refl _)) (fun _ => True) m w := fun l J Jx W hW _ _ hY h0 =>
  back1_in l Bs n₀ m c A tr hl hw hm J Jx hY W ((hW.cell (p := ⟨Bs, 0, none⟩) hbs).trans hc) (hr.below (hW.mono hn₀)) h0

end Go.Proofs.Ythclmacnmbmepaa
