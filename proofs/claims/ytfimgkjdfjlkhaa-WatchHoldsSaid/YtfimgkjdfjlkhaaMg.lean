/- A hub of which one watcher changes. -/
import Derived.Test.YtfimgkjdfjlkhaaMf
namespace Go.Proofs.Ytfimgkjdfjlkhaa
open Go.RowKit Go.Deep Go.Maps

def Sl.with_ (s : Sl) (t : Wt) : Sl := ⟨s.id, s.g, t⟩
theorem slotF_with (a b : List Sl) (s : Sl) (t : Wt) : slotF (a ++ s.with_ t :: b) = slotF (a ++ s :: b) := by
  funext k
  unfold slotF
  rw [List.find?_append, List.find?_append, List.find?_cons, List.find?_cons]
  cases List.find? (fun s => s.id == k) a with
  | some x => rfl
  | none =>
    show Option.map _ (match s.id == k with | true => _ | false => _) = Option.map _ (match s.id == k with | true => _ | false => _)
    cases s.id == k <;> rfl
theorem HubAt.slot {w w1 : World} {base hb n : Nat} {m : Option Nat} {a b : List Sl} {s : Sl} (h : HubAt w base hb m n (a ++ s :: b)) (t : Wt) (hc : Chg [s.g, s.t.rg] w w1) (ht : WtAt w1 base s.g t) (_hbase : base ≤ w.heap.size)
    (hrg : t.rg = s.t.rg ∨ (w.heap.size ≤ t.rg ∧ t.rg < w1.heap.size)) (h0 : t.rn = 0 → t.rg = s.g) (hv : VTo w.heap.size (wb s.t.wait) (wb t.wait)) : HubTo w w1 base hb m (a ++ s :: b) m n (a ++ s.with_ t :: b) := by
  have hlt := h.lt
  have hge := h.ge
  have hs : s ∈ a ++ s :: b := by simp
  have hws := h.wts s hs
  have hO : ∀ k ∈ [s.g, s.t.rg], k ∈ hubO hb m (a ++ s :: b) := by
    intro k hk
    simp only [List.mem_cons, List.not_mem_nil, or_false] at hk
    rcases hk with rfl | rfl
    · exact mem_hubO.2 (Or.inr (Or.inr ⟨s, hs, Or.inl rfl⟩))
    · exact mem_hubO.2 (Or.inr (Or.inr ⟨s, hs, Or.inr rfl⟩))
  have hNR : ∀ k ∈ [s.g, s.t.rg], NoRow w k := fun k hk => h.noRow k (hO k hk)
  obtain ⟨pa, pb, pab⟩ := List.pairwise_append.1 h.apart
  obtain ⟨psb, pb'⟩ := List.pairwise_cons.1 pb
  have hap : ∀ x ∈ a ++ b, x.g ≠ s.g ∧ x.g ≠ s.t.rg ∧ x.t.rg ≠ s.g ∧ x.t.rg ≠ s.t.rg := by
    intro x hx
    rcases List.mem_append.1 hx with hx | hx
    · obtain ⟨h1, h2, h3, h4⟩ := pab x hx s (by simp)
      exact ⟨h1, h2, h3, h4⟩
    · obtain ⟨h1, h2, h3, h4⟩ := psb x hx
      exact ⟨h1.symm, h3.symm, h2.symm, h4.symm⟩
  have hin : ∀ x ∈ a ++ b, x ∈ a ++ s :: b := by
    intro x hx
    rcases List.mem_append.1 hx with hx | hx
    · exact List.mem_append_left _ hx
    · exact List.mem_append_right _ (List.mem_cons_of_mem _ hx)
  have hold : ∀ x ∈ a ++ b, x.g < w.heap.size ∧ x.t.rg < w.heap.size := fun x hx => ⟨hlt _ (mem_hubO.2 (Or.inr (Or.inr ⟨x, hin x hx, Or.inl rfl⟩))), hlt _ (mem_hubO.2 (Or.inr (Or.inr ⟨x, hin x hx, Or.inr rfl⟩)))⟩
  have hsg : s.g < w.heap.size := hws.1.blk.lt
  have hap' : ∀ x ∈ a ++ b, x.g ≠ s.g ∧ x.g ≠ t.rg ∧ x.t.rg ≠ s.g ∧ x.t.rg ≠ t.rg := by
    intro x hx
    obtain ⟨h1, h2, h3, h4⟩ := hap x hx
    obtain ⟨l1, l2⟩ := hold x hx
    rcases hrg with e | ⟨e, _⟩
    · rw [e]; exact ⟨h1, h2, h3, h4⟩
    · exact ⟨h1, by omega, h3, by omega⟩
  have hmem : ∀ x, x ∈ a ++ s.with_ t :: b → x = s.with_ t ∨ x ∈ a ++ b := by
    intro x hx
    rcases List.mem_append.1 hx with hx | hx
    · exact Or.inr (List.mem_append_left _ hx)
    · rcases List.mem_cons.1 hx with hx | hx
      · exact Or.inl hx
      · exact Or.inr (List.mem_append_right _ hx)
  have hother : ∀ x ∈ a ++ b, WtAt w1 base x.g x.t ∧ base ≤ x.g ∧ base ≤ x.t.rg ∧ x.t.rg < w1.heap.size ∧ (x.t.rn = 0 → x.t.rg = x.g) := by
    intro x hx
    obtain ⟨h1, h2, h3, h4, h5⟩ := h.wts x (hin x hx)
    obtain ⟨k1, k2, k3, k4⟩ := hap x hx
    refine ⟨h1.chg2 hc ?_ (fun _ => ?_) hNR, h2, h3, Nat.lt_of_lt_of_le h4 hc.size, h5⟩
    · simp only [List.mem_cons, List.not_mem_nil, or_false, not_or]; exact ⟨k1, k2⟩
    · simp only [List.mem_cons, List.not_mem_nil, or_false, not_or]; exact ⟨k3, k4⟩
  have hrg2 : base ≤ t.rg ∧ t.rg < w1.heap.size := by
    rcases hrg with e | ⟨e, e2⟩
    · rw [e]; exact ⟨hws.2.2.1, Nat.lt_of_lt_of_le hws.2.2.2.1 hc.size⟩
    · exact ⟨by omega, e2⟩
  refine ⟨?_, hc.mono hO, ?_, by rw [vblks_mid, vblks_mid]; exact hv.mid _ _⟩
  · exact {
      blk := hc.blk h.blk (fun e => by
        simp only [List.mem_cons, List.not_mem_nil, or_false] at e
        rcases e with e | e
        · have h1 := hws.1.blk
          unfold Blk at h1
          rw [← e, h.blk] at h1
          injection h1 with h1; injection h1 with _ h1; exact absurd h1 (by decide)
        · obtain ⟨cs, ty, h1, _, _, h2⟩ := h.rgType hs
          unfold Blk at h1
          rw [← e, h.blk] at h1
          injection h1 with h1; injection h1 with _ h1; exact h2 h1.symm)
      bmap := fun b' e => by
        obtain ⟨h1, h2⟩ := h.bmap b' e
        rw [slotF_with]
        refine ⟨?_, h2⟩
        have : (a ++ s.with_ t :: b).length = (a ++ s :: b).length := by simp
        rw [this]
        refine h1.at_ (hc.block b' h1.lt (fun e => ?_))
        simp only [List.mem_cons, List.not_mem_nil, or_false] at e
        rcases e with e | e
        · exact map_blk_ne h1 hws.1.blk e
        · obtain ⟨cs, ty, h1', _⟩ := h.rgType hs
          exact map_blk_ne h1 h1' e
      nomap := fun e => by have := h.nomap e; simp at this
      wts := fun x hx => by
        rcases hmem x hx with rfl | hx
        · exact ⟨ht, hws.2.1, hrg2.1, hrg2.2, h0⟩
        · exact hother x hx
      ids := by
        obtain ⟨qa, qb, qab⟩ := List.pairwise_append.1 h.ids
        obtain ⟨qsb, qb'⟩ := List.pairwise_cons.1 qb
        refine List.pairwise_append.2 ⟨qa, List.pairwise_cons.2 ⟨qsb, qb'⟩, fun x hx y hy => ?_⟩
        rcases List.mem_cons.1 hy with rfl | hy
        · exact qab x hx s (by simp)
        · exact qab x hx y (List.mem_cons_of_mem _ hy)
      apart := by
        refine List.pairwise_append.2 ⟨pa, List.pairwise_cons.2 ⟨fun x hx => ?_, pb'⟩, fun x hx y hy => ?_⟩
        · obtain ⟨k1, k2, k3, k4⟩ := hap' x (List.mem_append_right _ hx)
          exact ⟨k1.symm, k3.symm, k2.symm, k4.symm⟩
        · rcases List.mem_cons.1 hy with rfl | hy
          · exact hap' x (List.mem_append_left _ hx)
          · exact pab x hx y (List.mem_cons_of_mem _ hy)
      hbase := h.hbase
      range := fun x hx => by
        rcases hmem x hx with rfl | hx
        · exact h.range s hs
        · exact h.range x (hin x hx) }
  · intro k hk
    rw [mem_hubO] at hk
    rcases hk with rfl | e | ⟨x, hx, e⟩
    · exact Or.inl (mem_hubO.2 (Or.inl rfl))
    · exact Or.inl (mem_hubO.2 (Or.inr (Or.inl e)))
    · rcases hmem x hx with rfl | hx
      · rcases e with rfl | rfl
        · exact Or.inl (hO _ (by show s.g ∈ _; simp))
        · rcases hrg with e | ⟨e, _⟩
          · exact Or.inl (hO _ (by show t.rg ∈ _; simp [e]))
          · exact Or.inr e
      · exact Or.inl (mem_hubO.2 (Or.inr (Or.inr ⟨x, hin x hx, e⟩)))
end Go.Proofs.Ytfimgkjdfjlkhaa
