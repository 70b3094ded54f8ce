/- 'Add' of a hub that has no map yet. -/
import Derived.Test.YtfimgkjdfjlkhaaMe
namespace Go.Proofs.Ytfimgkjdfjlkhaa
open Go.RowKit Go.Deep Go.Maps

theorem HubTo.trans {w w1 w2 : World} {base hb n1 n2 : Nat} {m m1 m2 : Option Nat} {l l1 l2 : List Sl} (h : HubTo w w1 base hb m l m1 n1 l1) (h' : HubTo w1 w2 base hb m1 l1 m2 n2 l2) : HubTo w w2 base hb m l m2 n2 l2 where
  hub := h'.hub
  chg := h.chg.trans h'.chg h.own
  own := fun k hk => by
    rcases h'.own k hk with e | e
    · exact h.own k e
    · exact Or.inr (Nat.le_trans h.chg.size e)
  vals := h.vals.trans h'.vals h.chg.size (fun k hk => (h.hub.vlt k hk).2)
theorem HubTo.of_below {w w1 : World} {base hb n : Nat} {m : Option Nat} {l : List Sl} (h : HubAt w base hb m n l) (hb1 : Below w.heap.size w w1) : HubTo w w1 base hb m l m n l where
  hub := h.below hb1
  chg := Chg.below hb1 _
  own := fun _ hk => Or.inl hk
  vals := VTo.refl _ _
theorem HubAt.mapped {w : World} {base hb : Nat} {n : Nat} (h : HubAt w base hb none n []) (hbase : base ≤ w.heap.size) :
    HubTo w ((w.setCell ⟨hb, 0, none⟩ (.map (some w.heap.size))).alloc (.map #[] 0)) base hb none [] (some w.heap.size) 0 [] := by
  have hc : Chg [hb] w ((w.setCell ⟨hb, 0, none⟩ (.map (some w.heap.size))).alloc (.map #[] 0)) := ((Chg.refl [hb] w).setCell (Or.inl (by simp)) _).alloc _
  have hlt := h.blk.lt
  refine ⟨?_, hc.mono (fun x hx => by simp only [List.mem_singleton] at hx; subst hx; exact mem_hubO.2 (Or.inl rfl)), ?_, VTo.refl _ _⟩
  · exact {
      blk := by
        have := (h.blk.set_ 0 (.map (some w.heap.size))).alloc (.map #[] 0)
        exact this
      bmap := fun b e => by
        injection e with e
        subst e
        have := MapIs.made (w.setCell ⟨hb, 0, none⟩ (.map (some w.heap.size)))
        rw [World.size_setCell] at this
        exact ⟨this, hbase⟩
      nomap := fun _ => rfl
      wts := fun s hs => by cases hs
      ids := List.Pairwise.nil
      apart := List.Pairwise.nil
      hbase := h.hbase
      range := fun s hs => by cases hs }
  · intro x hx
    rw [mem_hubO] at hx
    rcases hx with rfl | e | ⟨s, hs, _⟩
    · exact Or.inl (mem_hubO.2 (Or.inl rfl))
    · injection e with e; subst e; exact Or.inr (Nat.le_refl _)
    · cases hs
theorem KindsAt.set {w : World} {r : Ri} (h : KindsAt w r) {p : Addr} (u : Value) (hp : 0 < r.kinds.length → ∀ a, r.kA = some a → a.block ≠ p.block) : KindsAt (w.setCell p u) r := by
  by_cases hl : r.kinds.length = 0
  · exact Or.inl hl
  · exact h.imp id (fun h => Reads.apart h (by simp) (fun a e q hq => World.cell?_setCell_far w p q u (by rw [hq]; exact (hp (by omega) a e).symm)))
theorem KindsAt.alloc {w : World} {r : Ri} (h : KindsAt w r) (o : Obj) : KindsAt (w.alloc o) r := h.below ((Below.refl _ w).alloc (Nat.le_refl _) o)
theorem KindsAt.reads {w : World} {r : Ri} (h : KindsAt w r) : Reads w w.heap.size 1 r.kA r.kinds.length (ints .i64 r.kinds) := by
  rcases h with e | e
  · have := List.eq_nil_of_length_eq_zero e
    rw [this]
    exact ⟨rfl, fun hp => absurd hp (by simp)⟩
  · exact e
set_option maxRecDepth 100000 in
set_option maxHeartbeats 2000000 in
theorem add_none (w : World) (base hb n : Nat) (r : Ri) (h : HubAt w base hb none n []) (hk : KindsAt w r) (hn : r.kinds.length ≤ 1000000) (hv : validRi r = true) (hbase : base ≤ w.heap.size) (h0 : r.kA = none → r.kinds.length = 0 ∧ r.kc = 0) (hap : 0 < r.kinds.length → ∀ a, r.kA = some a → a.block ≠ hb) :
    Calls Try.prog 17 #[.pointer (some ⟨hb, 0, none⟩), r.v] w (addTo w base hb 0 none [] r) := by
  have hW := (Below.refl _ w).alloc (Nat.le_refl _) (.cells r.cells 24)
  have hV := valid_rule r (w.alloc (.cells r.cells 24)) (hk.below hW) hn
  rw [hv] at hV
  have HBX := Lib.hid (Blk.new w 24 r.cells)
  have HW := Lib.hid hW
  have HV := Lib.hid hV
  have HH := Lib.hid h
  have HK := Lib.hid hk
  have H0 := Lib.hid h0
  have HVV := Lib.hid hv
  have hlen : ∀ ty w, (Builtin.len_ #[34] ty #[.map none]).run Try.prog w = .ok (.int .i64 0) w := fun ty w => Maps.len_nil Try.underlying34 ty
  have hq : ∀ (w : World) (r : Option Nat), (binOp .eql 34 (.map r) (.map none)).run Try.prog w = .ok (.bool r.isNone) w := fun w r => run_eql_map_nil w _ _ _ r Try.underlying34
  clear hk hv hW hV h h0
  obtain ⟨p, kinds, room, oldest, kA, kc⟩ := r
  simp only [Ri.v, Ri.cells] at HV HW HBX ⊢
  go_enter Try.func17, Try.ntmps17
  go_wp2_with fail
  refine HV.out.mono ?_
  rintro e w1 ⟨rfl, hb1⟩
  have HB := Lib.hid (HW.out.trans (hb1.mono HW.out.size))
  have HBX1 := Lib.hid (HBX.out.below hb1 HBX.out.lt)
  have HH1 := Lib.hid (HH.out.below HB.out)
  have c0 := HH1.out.blk.cell 0
  simp only [List.getElem?_toArray, List.getElem?_cons_zero] at c0
  clear hb1
  have lt0 := HH1.out.blk.lt
  have fz0 := HH1.out.blk.frozen 0
  have ne0 := World.new_ne w1 _ c0
  have hM := HH1.out.mapped (Nat.le_trans hbase HB.out.size)
  have HX8 := Lib.hid (HBX1.out.keep (hM.chg.block _ HBX1.out.lt (by rw [mem_hubO]; intro e; rcases e with e | e | ⟨s, hs, _⟩; (have := HH.out.blk.lt; omega); cases e; cases hs)))
  have HM8 := Lib.hid hM
  have c8 := HM8.out.hub.blk.cell 0
  simp only [List.getElem?_toArray, List.getElem?_cons_zero] at c8
  have hmk : ∀ w, (Instr.makeMap 34 none).run Try.prog w = .ok (.map (some w.heap.size)) (w.alloc (.map #[] 0)) := fun _ => rfl
  have h18 : Hid (w1.heap.size ≤ (((w1.setCell ⟨hb, 0, none⟩ (.map (some w1.heap.size))).alloc (.map #[] 0))).heap.size) := Lib.hid hM.chg.size
  have hkr := (((HK.out.below HB.out).set (p := ⟨hb, 0, none⟩) (.map (some w1.heap.size)) hap).alloc (.map #[] 0)).reads
  clear hM
  go_wp2
  generalize (w1.setCell ⟨hb, 0, none⟩ (.map (some w1.heap.size))).alloc (.map #[] 0) = W8 at *
  have hb8 : Hid (base ≤ W8.heap.size) := Lib.hid (Nat.le_trans (Nat.le_trans hbase HB.out.size) h18.out)
  have HT8 := Lib.hid ((HubTo.of_below HH.out HB.out).trans HM8.out)
  have hbb : Hid (w.heap.size < w1.heap.size) := Lib.hid HBX1.out.lt
  generalize w1.heap.size = b at *
  have HKR := Lib.hid hkr
  clear hkr
  go_loopw [6] (fun x wr => x = .int .i64 0 ∧ wr = W8) (fun _ _ => 0)
  case atStart => exact ⟨rfl, rfl⟩
  case round =>
    obtain ⟨rfl, rfl⟩ := hrel
    have hlk := (HM8.out.hub.bmap b rfl).1.look (k := 0) (wf_id (by omega) (by omega))
    have hf : slotF [] 0 = none := rfl
    rw [hf] at hlk
    unfold ptrV at hlk
    have HLK := Lib.hid hlk
    have HH8 := Lib.hid HM8.out.hub
    have a1 := HX8.out.cell 1
    simp only [List.getElem?_toArray, List.getElem?_cons_zero, List.getElem?_cons_succ] at a1
    have HKC := Lib.hid (kclone_any kA kc kinds wr HKR.out hn H0.out)
    clear hf
    go_wp2_with fail
    refine HKC.out.mono ?_
    rintro e w2 ⟨A', c', rfl, hown, hb2⟩
    have HB2 := Lib.hid hb2
    have HBX2 := Lib.hid (HX8.out.below hb2 HX8.out.lt)
    have hh2 := HH8.out.below hb2
    have d1 := HBX2.out.cell 1
    have f1 := HBX2.out.frozen 1
    simp only [List.getElem?_toArray, List.getElem?_cons_zero, List.getElem?_cons_succ] at d1
    have HOW := Lib.hid hown
    have HH2 := Lib.hid hh2
    clear hb2 hown hh2 c8 hlk a1
    go_wp2
    have HC3 := Lib.hid ((Chg.below HB2.out [w.heap.size]).setCell (p := ⟨w.heap.size, 1, none⟩) (Or.inl (by simp)) (.slice A' kinds.length c'))
    have HC3' := Lib.hid ((Chg.refl [w.heap.size] w2).setCell (p := ⟨w.heap.size, 1, none⟩) (Or.inl (by simp)) (.slice A' kinds.length c'))
    have hbx3 := HBX2.out.set_ 1 (.slice A' kinds.length c')
    have hnh : w.heap.size ∉ hubO hb (some b) [] := fun e => by
      rw [mem_hubO] at e
      rcases e with e | e | ⟨s, hs, _⟩
      · have := HH.out.blk.lt; omega
      · injection e with e; have := hbb.out; omega
      · cases hs
    have hh3 := HH2.out.chg HC3'.out (fun k hk => by simp only [List.mem_singleton] at hk; subst hk; exact hnh) (fun k hk => by simp only [List.mem_singleton] at hk; subst hk; exact NoRow.blk HBX2.out (by decide) (by decide))
    have hown3 : (w2.setCell ⟨w.heap.size, 1, none⟩ (.slice A' kinds.length c')).ownsRow wr.heap.size 25 1 (.slice A' kinds.length c') kinds.length (ints .i64 kinds) :=
      HC3'.out.own HOW.out (fun k hk _ => by simp only [List.mem_singleton] at hk; subst hk; exact ⟨_, _, HBX2.out, by decide⟩)
    have HO3 := Lib.hid hown3
    have HH3 := Lib.hid hh3
    have HBX3 := Lib.hid hbx3
    clear d1 f1 hbx3 hown3 hnh hh3 HC3'
    generalize w2.setCell ⟨w.heap.size, 1, none⟩ (.slice A' kinds.length c') = W3 at *
    have c0 := HH3.out.blk.cell 0
    have a0 := HBX3.out.cell 0
    have a1 := HBX3.out.cell 1
    have a2 := HBX3.out.cell 2
    have a3 := HBX3.out.cell 3
    simp only [List.setIfInBounds_toArray, List.set_cons_zero, List.set_cons_succ, List.getElem?_toArray, List.getElem?_cons_zero, List.getElem?_cons_succ] at c0 a0 a1 a2 a3
    have hmX : MapIs (W3.alloc (.cells #[.string p, .slice A' kinds.length c', .int .i64 room, .bool oldest, .slice none 0 0, .int .i64 0, .int .i64 0, .int .i64 0] 76)).drew b 0 (slotF []) 0 :=
      (HH3.out.bmap b rfl).1.at_ (Below.heap_alloc _ _ _ (HH3.out.bmap b rfl).1.lt)
    obtain ⟨w9, hrun, hm9, hg9⟩ := hmX.put (k := 0) (wf_id (by omega) (by omega)) (by unfold maxLen; omega) rfl W3.heap.size
    have HM9 := Lib.hid hm9
    have HG9 := Lib.hid hg9
    clear hmX hm9 hg9
    have ne0 := World.new_ne W3 _ c0
    have ne1 := World.new_ne W3 _ a0
    have lt0 := HH3.out.blk.lt
    have lt1 := HBX3.out.lt
    go_wp2
    go_region
    all_goals
      go_wp2
      go_ret2
      have hroom := valid_room HVV.out
      simp only at hroom
      have HFR : Hid (IsFree [] 0) := Lib.hid ⟨(fun s hs => absurd hs (by simp)), (fun j hj => absurd hj (Nat.not_lt_zero _))⟩
      refine ⟨0, b, W3.heap.size, c', 1, A', rfl, HFR.out, by omega, ?_, Nat.le_refl _⟩
      have hX : Chg [] W3 (W3.alloc (.cells #[.string p, .slice A' kinds.length c', .int .i64 room, .bool oldest, .slice none 0 0, .int .i64 0, .int .i64 0, .int .i64 0] 76)).drew := ((Chg.refl [] W3).alloc _).drew
      have hC9 := Chg.of_grown HG9.out
      have hbX := Blk.drew (Blk.new W3 76 #[.string p, .slice A' kinds.length c', .int .i64 room, .bool oldest, .slice none 0 0, .int .i64 0, .int .i64 0, .int .i64 0])
      have hbl : b < W3.heap.size := (HH3.out.bmap b rfl).1.lt
      have hT3 : HubTo w W3 base hb none [] (some b) 0 [] := ⟨HH3.out, HT8.out.chg.trans HC3.out (fun x hx => by simp only [List.mem_singleton] at hx; subst hx; exact Or.inr (Nat.le_refl _)), HT8.out.own, VTo.refl _ _⟩
      refine hT3.trans (HH3.out.added ((hX.mono (fun x hx => by cases hx)).trans hC9 (fun x hx => Or.inl hx)) (Nat.le_refl _) (Nat.le_trans hb8.out HC3.out.size) ?_ HM9.out HFR.out (by omega) HVV.out ?_)
      · have h1 := hC9.blk hbX (by simp only [List.mem_singleton]; omega)
        have e : (newSl ((0 : Nat) : Int) W3.heap.size ⟨p, kinds, room, oldest, kA, kc⟩ A' c').t.cells = #[.string p, .slice A' kinds.length c', .int .i64 room, .bool oldest, .slice none 0 0, .int .i64 0, .int .i64 0, .int .i64 0] := by
          simp [newSl, Wt.cells, Wt.ring]
          omega
        rw [e]
        exact h1
      · refine own_base (own_same (HO3.out.alloc (.cells #[.string p, .slice A' kinds.length c', .int .i64 room, .bool oldest, .slice none 0 0, .int .i64 0, .int .i64 0, .int .i64 0] 76)) (fun g' hg' => ?_)) hb8.out
        have hl9 := (HO3.out.lt g' hg').2
        refine (HG9.out.block g' (by show g' < (W3.alloc (.cells #[.string p, .slice A' kinds.length c', .int .i64 room, .bool oldest, .slice none 0 0, .int .i64 0, .int .i64 0, .int .i64 0] 76)).heap.size; simp; omega) (fun e => ?_)).trans rfl
        injection e with e
        subst e
        obtain ⟨cs, hh⟩ := own_row HO3.out hg'
        exact (NoRow.map (HH3.out.bmap g' rfl).1 cs).2 hh
theorem HubAt.len_le {w : World} {base hb n : Nat} {m : Option Nat} {l : List Sl} (h : HubAt w base hb m n l) : l.length ≤ 64 := by
  have h1 := len_le_of_subset (l.map Sl.id) ((List.range 64).map fun j : Nat => (j : Int)) ?_ ?_
  · simpa using h1
  · unfold List.Nodup
    rw [List.pairwise_map]
    exact h.ids
  · intro x hx
    obtain ⟨s, hs, rfl⟩ := List.mem_map.1 hx
    have := h.range s hs
    exact List.mem_map.2 ⟨s.id.toNat, by simp; omega, by omega⟩
/-- What 'Add' answers, and what it makes of the hub. -/
def added (w : World) (base hb n : Nat) (m : Option Nat) (l : List Sl) (r : Ri) (e : Ending) (w' : World) : Prop :=
  (validRi r = false ∧ e = .returned (.tuple #[.int .i64 0, .int .i64 2]) ∧ Below w.heap.size w w') ∨
  (validRi r = true ∧ 64 ≤ l.length ∧ e = .returned (.tuple #[.int .i64 0, .int .i64 7]) ∧ Below w.heap.size w w') ∨
  (validRi r = true ∧ l.length < 64 ∧ addTo w base hb n m l r e w')
theorem add_any (w : World) (base hb n : Nat) (m : Option Nat) (l : List Sl) (r : Ri) (h : HubAt w base hb m n l) (hk : KindsAt w r) (hn : r.kinds.length ≤ 1000000) (hbase : base ≤ w.heap.size) (hnn : n ≤ 1000000)
    (h0 : r.kA = none → r.kinds.length = 0 ∧ r.kc = 0) (hap : 0 < r.kinds.length → ∀ a, r.kA = some a → a.block ≠ hb) :
    Calls Try.prog 17 #[.pointer (some ⟨hb, 0, none⟩), r.v] w (added w base hb n m l r) := by
  cases hv : validRi r with
  | false =>
    exact (add_bad w hb r hk hn hv).mono fun e w' h => Or.inl ⟨hv, h.1, h.2⟩
  | true =>
    have hl := h.len_le
    by_cases hf : 64 ≤ l.length
    · exact (add_full w base hb n m l r h hk hn hv hf (by omega)).mono fun e w' h => Or.inr (Or.inl ⟨hv, hf, h.1, h.2⟩)
    · cases m with
      | some b => exact (add_some w base hb n b l r h hk hn hv (by omega) hbase hnn h0).mono fun e w' h => Or.inr (Or.inr ⟨hv, by omega, h⟩)
      | none =>
        have := h.nomap rfl
        subst this
        refine (add_none w base hb n r h hk hn hv hbase h0 hap).mono fun e w' h => Or.inr (Or.inr ⟨hv, by omega, ?_⟩)
        obtain ⟨k, b, g, c, n', A, h1, h2, h3, h4, h5⟩ := h
        exact ⟨k, b, g, c, n', A, h1, h2, h3, h4, by omega⟩
end Go.Proofs.Ytfimgkjdfjlkhaa
