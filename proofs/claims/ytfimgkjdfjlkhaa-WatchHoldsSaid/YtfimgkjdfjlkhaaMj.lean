/- Ranging over a map of pointers. -/
import Derived.Test.YtfimgkjdfjlkhaaMi
namespace Go.Proofs.Ytfimgkjdfjlkhaa
open Go.RowKit Go.Deep Go.Maps

/-- A range over map b under way, its iterator in block r: what is left. -/
def MapRg (w : World) (b r n : Nat) (F : Int → Option Nat) (left : Int → Bool) (cnt : Nat) : Prop :=
  ∃ (D : DataW Unit) (L : Lit → Bool), w.ranges Try.prog 3 ptrElem b r n D L cnt ∧ (∀ k, (ilit k).wf = true → D.atKey (ilit k) (rd none) = rd (F k)) ∧ (∀ k, (ilit k).wf = true → L (ilit k) = left k) ∧ ∀ k, (ilit k).wf = true → left k = true → (F k).isSome = true
/-- A number that no simp splits. -/
structure NatBox where
  c : Nat
theorem ranges_at {w w' : World} {b r n cnt : Nat} {D : DataW Unit} {L : Lit → Bool} (h : w.ranges Try.prog 3 ptrElem b r n D L cnt) (hb : w'.heap[b]? = w.heap[b]?) (hr : w'.heap[r]? = w.heap[r]?) : w'.ranges Try.prog 3 ptrElem b r n D L cnt := by
  obtain ⟨es, clock, since, seen, c0, e1, F, hs, hD, e2, rest⟩ := h
  exact ⟨es, clock, since, seen, c0, hb.trans e1, F, hs, hD, hr.trans e2, rest⟩
section
variable {w w' : World} {b r n cnt : Nat} {F : Int → Option Nat} {left : Int → Bool}
theorem MapRg.at_ (h : MapRg w b r n F left cnt) (hb : w'.heap[b]? = w.heap[b]?) (hr : w'.heap[r]? = w.heap[r]?) : MapRg w' b r n F left cnt := by
  obtain ⟨D, L, h1, h2⟩ := h
  exact ⟨D, L, ranges_at h1 hb hr, h2⟩
theorem MapRg.left_eq (h : MapRg w b r n F left cnt) : w.rangeLeft b r = cnt := by obtain ⟨D, L, h1, _⟩ := h; exact h1.left_eq
theorem MapRg.lt (h : MapRg w b r n F left cnt) : r < w.heap.size ∧ b < w.heap.size := by obtain ⟨D, L, h1, _⟩ := h; exact ⟨h1.lt, h1.owns.lt⟩
theorem MapRg.noRow (h : MapRg w b r n F left cnt) : NoRow w r := fun cs' => by
  obtain ⟨D, L, ⟨es, clock, since, seen, c0, e1, _, _, _, e2, _⟩, _⟩ := h
  rw [e2]
  constructor <;> (intro e; injection e with e; cases e)
end
theorem sameKey_i64 (k x : Int) : (ilit k).sameKey (ilit x) = (k == x) := by
  by_cases e : k = x
  · subst e; simp [ilit, Lit.sameKey]
  · have : (k == x) = false := by simp [e]
    rw [this]
    simp [ilit, Lit.sameKey, e]
theorem wpList_range_mp (w : World) {ops : Array Oper} {rest : List Oper} {o : Oper} {a : Act} {Q : Exit → Act → World → Prop} (hg : o.guard = none) (m : Operand) (hop : o.op = Op.range 34 m) (b n c : Nat) (F : Int → Option Nat)
    (hm : a.eval m = .map (some b)) (hown : MapIs w b n F c)
    (hK : ∀ w', MapRg w' b w.heap.size n F (fun k => (F k).isSome) c → w.grownBy w' none → w'.heap.size = w.heap.size + 1 → wpList Try.prog ops Q rest (a.put o.dst (.pointer (some ⟨w.heap.size, 0, none⟩))) w') :
    wpList Try.prog ops Q (o :: rest) a w := by
  obtain ⟨D, h1, h2, h3⟩ := hown
  refine wpList_range_own w hg m 34 hop 3 74 law3 Try.underlying34 ptrElem b n D hm h1 (fun w' hr hg hs => hK w' ?_ hg hs)
  rw [h3] at hr
  exact ⟨D, _, hr, fun k hk => (h2 k hk).2, fun k hk => (h2 k hk).1, fun k _ h => h⟩
theorem wpList_next_mp (w : World) {ops : Array Oper} {rest : List Oper} {o : Oper} {a : Act} {Q : Exit → Act → World → Prop} (hg : o.guard = none) (it : Operand) (hop : o.op = Op.next it false)
    (b r n : Nat) (F : Int → Option Nat) (left : Int → Bool) (cnt : Nat) (hit : a.eval it = .pointer (some ⟨r, 0, none⟩)) (h : MapRg w b r n F left cnt)
    (hDone : (∀ k, (ilit k).wf = true → left k = false) → wpList Try.prog ops Q rest (a.put o.dst (.tuple #[.bool false])) w)
    (hMore : ∀ (x : Int) (g : NatBox) (w' : World) (cnt' : Nat), (ilit x).wf = true → left x = true → F x = some g.c → MapRg w' b r n F (fun k => left k && !(k == x)) cnt' → cnt' < cnt →
      w.grownBy w' (some r) → w'.heap.size = w.heap.size → (Instr.entry (.pointer (some ⟨r, 0, none⟩))).run Try.prog w' = .ok (.tuple #[.int .i64 x, .pointer (some ⟨g.c, 0, none⟩)]) w' →
      wpList Try.prog ops Q rest (a.put o.dst (.tuple #[.bool true, .int .i64 x, .pointer (some ⟨g.c, 0, none⟩)])) w') :
    wpList Try.prog ops Q (o :: rest) a w := by
  obtain ⟨D, L, h1, h2, h3, h4⟩ := h
  refine wpList_next_ranges w (α := Int) (β := Option Nat) hg it hop 3 law3 ptrElem (Value.int .i64) ptrV
    (fun key kl hkey => by obtain ⟨x, rfl, _⟩ := Maps.keyOf_int_inv Try.underlying3 hkey; exact ⟨x, rfl⟩) (fun v y hv => by obtain ⟨o, rfl, _⟩ := ptrElem_inv hv; exact ⟨o, rfl⟩)
    b r n D L cnt hit h1 (fun _ hl => hDone (fun k hk => by rw [← h3 k hk]; exact hl _)) (fun x c kl y w' cnt' hkey hlk hv hat hrg hlt hgr hsz hen => ?_)
  obtain ⟨x', ex, rfl, hwx⟩ := Maps.keyOf_int_inv Try.underlying3 hkey
  cases ex
  obtain ⟨o', eo, rfl⟩ := ptrElem_inv hv
  have eoo : c = o' := by cases c <;> cases o' <;> simp [ptrV] at eo ⊢; exact eo
  subst eoo
  have hF : F x = c := by
    have e1 := hat (rd none)
    have e2 := h2 x hwx
    unfold ilit at e2
    rw [e2] at e1
    exact rd_inj e1
  have hlx : left x = true := by rw [← h3 x hwx]; exact hlk
  have hs := h4 x hwx hlx
  rw [hF] at hs
  cases c with
  | none => cases hs
  | some g =>
    refine hMore x ⟨g⟩ w' cnt' hwx hlx hF ⟨D, _, hrg, h2, fun k hk => ?_, fun k hk hl => ?_⟩ hlt hgr hsz hen
    · show (L (ilit k) && !(ilit k).sameKey (ilit x)) = _
      rw [h3 k hk, sameKey_i64]
    · rw [Bool.and_eq_true] at hl
      exact h4 k hk hl.1
end Go.Proofs.Ytfimgkjdfjlkhaa
