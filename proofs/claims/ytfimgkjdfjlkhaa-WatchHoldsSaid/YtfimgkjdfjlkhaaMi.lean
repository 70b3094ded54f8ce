/- 'Remove' of a hub that is there. -/
import Derived.Test.YtfimgkjdfjlkhaaMh
namespace Go.Proofs.Ytfimgkjdfjlkhaa
open Go.RowKit Go.Deep Go.Maps

theorem slotF_del {a c : List Sl} {s : Sl} (h : ∀ x ∈ a ++ c, x.id ≠ s.id) : slotF (a ++ c) = upd (slotF (a ++ s :: c)) s.id none := by
  funext k
  unfold upd
  by_cases e : k = s.id
  · subst e
    rw [if_pos rfl, slotF_none]
    exact h
  · rw [if_neg e]
    unfold slotF
    rw [List.find?_append, List.find?_append, List.find?_cons]
    have : (s.id == k) = false := by simp; exact fun e2 => e e2.symm
    rw [this]
set_option maxHeartbeats 1000000 in
theorem removed_no (w : World) (base hb n : Nat) (m : Option Nat) (l : List Sl) (k : Int) (h : HubAt w base hb m n l) (hk : (ilit k).wf = true) (hs : ∀ s ∈ l, s.id ≠ k) :
    Calls Try.prog 22 #[.pointer (some ⟨hb, 0, none⟩), .int .i64 k] w fun e w' => e = .returned (.tuple #[.int .i64 0, .int .i64 9]) ∧ w = w' := by
  have HF := Lib.hid (find_no w base hb n m l k h hk hs)
  clear h hs hk
  go_enter Try.func22, Try.ntmps22
  go_wp2_with fail
  refine HF.out.mono ?_
  rintro e w' ⟨rfl, rfl⟩
  go_wp2
  go_ret2
  exact ⟨rfl, rfl⟩
theorem HubAt.removed {w w1 : World} {base hb n b : Nat} {a c : List Sl} {s : Sl} (h : HubAt w base hb (some b) n (a ++ s :: c)) (hc : Chg [b] w w1) (hm : MapIs w1 b n (upd (slotF (a ++ s :: c)) s.id none) ((a ++ s :: c).length - 1)) :
    HubTo w w1 base hb (some b) (a ++ s :: c) (some b) n (a ++ c) := by
  have hin : ∀ x ∈ a ++ c, x ∈ a ++ s :: c := by
    intro x hx
    rcases List.mem_append.1 hx with hx | hx
    · exact List.mem_append_left _ hx
    · exact List.mem_append_right _ (List.mem_cons_of_mem _ hx)
  have hsub : (a ++ c).Sublist (a ++ s :: c) := List.Sublist.append_left (List.sublist_cons_self _ _) a
  have hbne : b ≠ hb := map_blk_ne (h.bmap b rfl).1 h.blk
  have hO : ∀ k ∈ [b], NoRow w k := by
    intro k hk
    simp only [List.mem_singleton] at hk
    subst hk
    exact NoRow.map (h.bmap k rfl).1
  have hid : ∀ x ∈ a ++ c, x.id ≠ s.id := by
    obtain ⟨qa, qb, qab⟩ := List.pairwise_append.1 h.ids
    obtain ⟨qsb, qb'⟩ := List.pairwise_cons.1 qb
    intro x hx
    rcases List.mem_append.1 hx with hx | hx
    · exact qab x hx s (by simp)
    · exact (qsb x hx).symm
  refine ⟨?_, hc.mono (fun x hx => by simp only [List.mem_singleton] at hx; subst hx; exact mem_hubO.2 (Or.inr (Or.inl rfl))), ?_, VTo.sub (by rw [vblks_mid, show vblks (a ++ c) = vblks a ++ vblks c by simp [vblks]]; exact List.Sublist.append_left (List.sublist_append_right _ _) _)⟩
  · exact {
      blk := hc.blk h.blk (by simp only [List.mem_singleton]; exact Ne.symm hbne)
      bmap := fun b' e => by
        injection e with e
        subst e
        rw [slotF_del hid]
        have : (a ++ c).length = (a ++ s :: c).length - 1 := by simp
        rw [this]
        exact ⟨hm, (h.bmap b rfl).2⟩
      nomap := fun e => by cases e
      wts := fun x hx => by
        obtain ⟨h1, h2, h3, h4, h5⟩ := h.wts x (hin x hx)
        have n1 : x.g ∉ [b] := by simp only [List.mem_singleton]; exact (map_blk_ne (h.bmap b rfl).1 h1.blk).symm
        have n2 : x.t.rn ≠ 0 → x.t.rg ∉ [b] := fun hr => by
          obtain ⟨cs, hb2, _⟩ := h1.ring hr
          simp only [List.mem_singleton]; exact (map_blk_ne (h.bmap b rfl).1 hb2).symm
        exact ⟨h1.chg2 hc n1 n2 hO, h2, h3, Nat.lt_of_lt_of_le h4 hc.size, h5⟩
      ids := h.ids.sublist hsub
      apart := h.apart.sublist hsub
      hbase := h.hbase
      range := fun x hx => h.range x (hin x hx) }
  · intro k hk
    rw [mem_hubO] at hk
    refine Or.inl (mem_hubO.2 ?_)
    rcases hk with e | e | ⟨x, hx, e⟩
    · exact Or.inl e
    · exact Or.inr (Or.inl e)
    · exact Or.inr (Or.inr ⟨x, hin x hx, e⟩)
set_option maxHeartbeats 1000000 in
theorem removed_yes (w : World) (base hb n : Nat) (m : Option Nat) (a c : List Sl) (s : Sl) (h : HubAt w base hb m n (a ++ s :: c)) :
    Calls Try.prog 22 #[.pointer (some ⟨hb, 0, none⟩), .int .i64 s.id] w fun e w' => e = .returned (.tuple #[.int .i64 s.t.wait.length, .int .i64 0]) ∧ HubTo w w' base hb m (a ++ s :: c) m n (a ++ c) := by
  have hs : s ∈ a ++ s :: c := by simp
  obtain ⟨b, rfl⟩ : ∃ b, m = some b := by
    cases m with
    | none => have := h.nomap rfl; simp at this
    | some b => exact ⟨b, rfl⟩
  have HF := Lib.hid (find_yes w base hb n _ _ s h hs)
  have hws := h.wts s hs
  have hr := h.range s hs
  obtain ⟨w9, hrun, hm9, hg9⟩ := (h.bmap b rfl).1.del (k := s.id) (wf_id hr.1 hr.2) (by rw [slotF_mem h.ids hs]; rfl) 0
  have hrun' : ∀ ty, (Builtin.delete_ #[34, 3] ty #[.map (some b), .int .i64 s.id]).run Try.prog w = .ok (.tuple #[]) w9 := fun ty => hrun
  have c0 := h.blk.cell 0
  simp only [List.getElem?_toArray, List.getElem?_cons_zero] at c0
  have hC9 := Chg.of_grown hg9
  have c7 := (hC9.blk hws.1.blk (by simp only [List.mem_singleton]; exact (map_blk_ne (h.bmap b rfl).1 hws.1.blk).symm)).cell 6
  unfold Wt.cells at c7
  simp only [List.getElem?_toArray, List.getElem?_cons_zero, List.getElem?_cons_succ] at c7
  have HT := Lib.hid (h.removed hC9 hm9)
  clear hws h hs hr hm9 hg9 hC9 hrun
  go_enter Try.func22, Try.ntmps22
  go_wp2_with fail
  refine HF.out.mono ?_
  rintro e w' ⟨rfl, rfl⟩
  go_wp2
  go_ret2
  exact ⟨rfl, HT.out⟩
end Go.Proofs.Ytfimgkjdfjlkhaa
