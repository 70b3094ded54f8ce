/- Copies of kinds, and 'Add' of a hub that is there. At most a million kinds. -/
import Derived.Test.YtfimgkjdfjlkhaaMc
namespace Go.Proofs.Ytfimgkjdfjlkhaa
open Go.RowKit Go.Deep Go.Maps

theorem info25 : (Try.prog.info? 25).map (fun i => (i.zero, i.size, i.bytes)) = some (some (.int .i64 0), 1, 8) := by kernel_rfl
def kclonedTo (w : World) (xs : List Int) (e : Ending) (w' : World) : Prop :=
  ∃ A' c', e = .returned (.slice A' xs.length c') ∧ w'.ownsRow w.heap.size 25 1 (.slice A' xs.length c') xs.length (ints .i64 xs) ∧ Below w.heap.size w w'
set_option maxRecDepth 100000 in
theorem kclone_any (A : Option Addr) (c : Nat) (xs : List Int) (w : World) (h : Reads w w.heap.size 1 A xs.length (ints .i64 xs)) (hn : xs.length ≤ 1000000) (h0 : A = none → xs.length = 0 ∧ c = 0) :
    Calls Try.prog 38 #[.slice A xs.length c] w (kclonedTo w xs) := by
  cases A with
  | none =>
    obtain ⟨e0, rfl⟩ := h0 rfl
    have e1 : xs = [] := List.eq_nil_of_length_eq_zero e0
    subst e1
    have hq := fun W => Lib.run_eql_slice_nil (P := Try.prog) W 22 25 none 0 0 0 0 Try.underlying22
    clear h0 h e0
    go_enter Try.func38, Try.ntmps38
    go_wp2
    go_ret
    exact ⟨none, 0, rfl, World.ownsRow_nil _ _ _ _, Below.refl _ _⟩
  | some ad =>
    have hown : (w.alloc (.cells #[] 25)).ownsRow w.heap.size 25 1 (.slice (some ⟨w.heap.size, 0, none⟩) 0 0) 0 [] :=
      ⟨rfl, .inr ⟨w.heap.size, 0, #[], rfl, Nat.le_refl _, heap_alloc_new w _, Nat.le_refl _, by unfold maxLen; omega, rfl, rfl⟩⟩
    have hr := h.alloc (Nat.le_refl _) (.cells #[] 25)
    obtain ⟨i0, hi, hz0, hz1, hz2⟩ := info_parts info25
    have hq := fun W => Lib.run_eql_slice_nil (P := Try.prog) W 22 25 (some ad) xs.length c 0 0 Try.underlying22
    clear h h0
    go_enter Try.func38, Try.ntmps38
    go_wp2_with (first
      | (at_builtin; (refine wpList_append_any (w := w.alloc (.cells #[] 25)) rfl (.tmp 5) (.tmp 6) 22 rfl w.heap.size 25 i0 _ 1 8 Try.underlying22 hi hz0 hz1 hz2 rfl (by omega) _ 0 [] rfl hown w.heap.size (some ad) xs.length c (ints .i64 xs) rfl hr (by simp [ints, Value.oneCell']) (by unfold maxLen; omega) (by omega) (by simp) ?_); intro v' w1 hown' hg' _))
    obtain ⟨A', c', rfl, hr'⟩ := own_slice hown'
    have HB := Lib.hid (((Below.refl _ w).alloc (Nat.le_refl _) (.cells #[] 25)).grown hg' (by simp) (fun j hj => (hown.lt j hj).1))
    go_ret
    exact ⟨A', c', by simp, by simpa using hown', HB.out⟩
/-- A number that no watcher has, and all smaller ones have. -/
def IsFree (l : List Sl) (k : Nat) : Prop := (∀ s ∈ l, s.id ≠ (k : Int)) ∧ ∀ j < k, ∃ s ∈ l, s.id = (j : Int)
theorem len_le_of_subset : ∀ (a b : List Int), a.Nodup → (∀ x ∈ a, x ∈ b) → a.length ≤ b.length := by
  intro a
  induction a with
  | nil => intro b _ _; exact Nat.zero_le _
  | cons x a ih =>
    intro b hd hs
    have hx := hs x (List.mem_cons_self ..)
    have h1 := ih (b.erase x) (List.nodup_cons.1 hd).2 (fun y hy => by
      have hne : y ≠ x := fun e => (List.nodup_cons.1 hd).1 (e ▸ hy)
      exact (List.mem_erase_of_ne hne).2 (hs y (List.mem_cons_of_mem _ hy)))
    have h2 := List.length_erase_of_mem hx
    have h3 := List.length_pos_of_mem hx
    simp only [List.length_cons]
    omega
theorem occ_le {l : List Sl} {k : Nat} (h : ∀ j < k, ∃ s ∈ l, s.id = (j : Int)) : k ≤ l.length := by
  have h1 := len_le_of_subset ((List.range k).map fun j : Nat => (j : Int)) (l.map Sl.id) ?_ ?_
  · simpa using h1
  · unfold List.Nodup
    rw [List.pairwise_map]
    exact (List.nodup_range (n := k)).imp (fun {a b} h e => h (by exact_mod_cast e))
  · intro x hx
    obtain ⟨j, hj, rfl⟩ := List.mem_map.1 hx
    obtain ⟨s, hs, e⟩ := h j (by simpa using hj)
    exact List.mem_map.2 ⟨s, hs, e⟩
theorem slotF_snoc {l : List Sl} {s : Sl} (h : ∀ x ∈ l, x.id ≠ s.id) : slotF (l ++ [s]) = upd (slotF l) s.id (some s.g) := by
  funext j
  unfold upd
  by_cases e : j = s.id
  · subst e
    rw [if_pos rfl]
    unfold slotF
    rw [List.find?_append]
    have : l.find? (fun x => x.id == s.id) = none := by rw [List.find?_eq_none]; simpa using h
    rw [this]
    simp
  · rw [if_neg e]
    unfold slotF
    rw [List.find?_append]
    have : ([s].find? fun x => x.id == j) = none := by simp; exact fun e2 => e e2.symm
    rw [this]
    simp
/-- What a call makes of a hub. -/
structure HubTo (w w' : World) (base hb : Nat) (m : Option Nat) (l : List Sl) (m' : Option Nat) (n' : Nat) (l' : List Sl) : Prop where
  hub : HubAt w' base hb m' n' l'
  chg : Chg (hubO hb m l) w w'
  own : ∀ k ∈ hubO hb m' l', k ∈ hubO hb m l ∨ w.heap.size ≤ k
  vals : VTo w.heap.size (vblks l) (vblks l')
def newSl (k : Int) (g : Nat) (r : Ri) (A : Option Addr) (c : Nat) : Sl := ⟨k, g, ⟨⟨r.pre, r.kinds, r.room.toNat, r.oldest, A, c⟩, g, 0, 0, [], 0⟩⟩
theorem HubAt.added {w w' : World} {base hb n b g c : Nat} {l : List Sl} {k : Nat} {r : Ri} {A : Option Addr} (h : HubAt w base hb (some b) n l) (hc : Chg [b] w w') (hg : w.heap.size ≤ g) (hbase : base ≤ w.heap.size)
    (hblk : Blk w' g 76 (newSl k g r A c).t.cells) (hmap : MapIs w' b (n + 1) (upd (slotF l) k (some g)) (l.length + 1)) (hf : IsFree l k) (hk : k < 64) (hv : validRi r = true) (hkinds : w'.ownsRow base 25 1 (.slice A r.kinds.length c) r.kinds.length (ints .i64 r.kinds)) :
    HubTo w w' base hb (some b) l (some b) (n + 1) (l ++ [newSl k g r A c]) := by
  have hroom : 1 ≤ r.room ∧ r.room ≤ 1000 := by
    unfold validRi at hv
    rw [Bool.and_eq_true, Bool.and_eq_true, Bool.and_eq_true, decide_eq_true_iff, decide_eq_true_iff, decide_eq_true_iff] at hv
    exact ⟨hv.2.1.2, hv.2.2⟩
  have hlt := h.lt
  have hbne : b ≠ hb := map_blk_ne (h.bmap b rfl).1 h.blk
  have hO : ∀ k ∈ [b], NoRow w k := by
    intro k hk
    simp only [List.mem_singleton] at hk
    subst hk
    exact NoRow.map (h.bmap k rfl).1
  have hgl := hblk.lt
  refine ⟨?_, hc.mono (fun x hx => by simp only [List.mem_singleton] at hx; subst hx; exact mem_hubO.2 (Or.inr (Or.inl rfl))), ?_, by rw [show vblks (l ++ [newSl k g r A c]) = vblks l by simp [vblks, newSl, wb]]; exact VTo.refl _ _⟩
  · exact {
      blk := hc.blk h.blk (by simp only [List.mem_singleton]; exact Ne.symm hbne)
      bmap := fun b' e => by
        injection e with e
        subst e
        rw [slotF_snoc (s := newSl k g r A c) (fun x hx => hf.1 x hx), List.length_append]
        exact ⟨hmap, (h.bmap b rfl).2⟩
      nomap := fun e => by cases e
      wts := fun s hs => by
        rcases List.mem_append.1 hs with hs | hs
        · obtain ⟨h1, h2, h3, h4, h5⟩ := h.wts s hs
          have n1 : s.g ∉ [b] := by simp only [List.mem_singleton]; exact (map_blk_ne (h.bmap b rfl).1 h1.blk).symm
          have n2 : s.t.rn ≠ 0 → s.t.rg ∉ [b] := fun hr => by
            obtain ⟨cs, hb2, _⟩ := h1.ring hr
            simp only [List.mem_singleton]; exact (map_blk_ne (h.bmap b rfl).1 hb2).symm
          exact ⟨h1.chg2 hc n1 n2 hO, h2, h3, Nat.lt_of_lt_of_le h4 hc.size, h5⟩
        · simp only [List.mem_singleton] at hs
          subst hs
          refine ⟨?_, by show base ≤ g; omega, by show base ≤ g; omega, hgl, fun _ => rfl⟩
          exact {
            blk := hblk
            ring := fun e => absurd rfl e
            hf := fun e => absurd rfl e
            hf0 := fun _ => rfl
            many := Nat.le_refl _
            room1 := by show 1 ≤ r.room.toNat; omega
            room := Nat.zero_le _
            room2 := by show r.room.toNat ≤ 1000; omega
            own := fun x hx => by cases hx
            kinds := Or.inr hkinds }
      ids := List.pairwise_append.2 ⟨h.ids, List.pairwise_singleton _ _, fun x hx y hy => by simp only [List.mem_singleton] at hy; subst hy; exact hf.1 x hx⟩
      apart := List.pairwise_append.2 ⟨h.apart, List.pairwise_singleton _ _, fun x hx y hy => by
        simp only [List.mem_singleton] at hy
        subst hy
        have a := hlt x.g (mem_hubO.2 (Or.inr (Or.inr ⟨x, hx, Or.inl rfl⟩)))
        have b := hlt x.t.rg (mem_hubO.2 (Or.inr (Or.inr ⟨x, hx, Or.inr rfl⟩)))
        refine ⟨?_, ?_, ?_, ?_⟩ <;> (show _ ≠ g) <;> omega⟩
      hbase := h.hbase
      range := fun s hs => by
        rcases List.mem_append.1 hs with hs | hs
        · exact h.range s hs
        · simp only [List.mem_singleton] at hs
          subst hs
          exact ⟨by show (0 : Int) ≤ (k : Int); omega, by show (k : Int) < 64; omega⟩ }
  · intro x hx
    rw [mem_hubO] at hx
    rcases hx with rfl | e | ⟨s, hs, e⟩
    · exact Or.inl (mem_hubO.2 (Or.inl rfl))
    · exact Or.inl (mem_hubO.2 (Or.inr (Or.inl e)))
    · rcases List.mem_append.1 hs with hs | hs
      · exact Or.inl (mem_hubO.2 (Or.inr (Or.inr ⟨s, hs, e⟩)))
      · simp only [List.mem_singleton] at hs
        subst hs
        rcases e with rfl | rfl <;> exact Or.inr hg
end Go.Proofs.Ytfimgkjdfjlkhaa
