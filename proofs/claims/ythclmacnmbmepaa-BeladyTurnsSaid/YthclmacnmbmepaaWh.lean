import Derived.Test.YthclmacnmbmepaaWg
namespace Go.Proofs.Ythclmacnmbmepaa
open Go.RowKit Bel Go.Maps Go.Shelf
attribute [local go_sem] Oper.semAt_some

/-- 'Next' of a trace that is too long. -/
theorem next_long (A : Option Addr) (n c : Nat) (w : World) (hn : 4096 < n) :
    Calls Try.prog 10 #[.slice A n c] w fun e w' => e = .returned (.tuple #[.slice none 0 0, .int .i64 5]) ∧ Below w.heap.size w w' := by
  have ha : allowedE n 4096 1 = 5 := by unfold allowedE; rw [if_pos (by omega)]
  have HA := Lib.hid (fun W => allowed_any A n c 4096 1 W)
  rw [ha] at HA
  go_enter Try.func10, Try.ntmps10
  go_wp2_with (go_at_call 29; refine (HA.out _).mono ?_; rintro e w' ⟨rfl, rfl⟩)
  go_ret2
  exact ⟨rfl, (Below.refl _ _).alloc (Nat.le_refl _) _⟩

theorem Blk.keptX {X Y : World} {row : Option Nat} {g : Nat} {t : TypeId} {cs : Array Value} (h : Blk X g t cs) (hg : X.grownBy Y row) (hr : ∀ r, row = some r → ∃ o : Obj, X.heap[r]? = some o ∧ o.isCells = false) : Blk Y g t cs :=
  h.grown hg fun e => by
    obtain ⟨o, ho, hc⟩ := hr _ e.symm
    unfold Blk at h
    rw [h] at ho
    cases ho
    cases hc
theorem ints_at {zs : List Int} {k : IntKind} {j : Nat} (h : j < zs.length) : (ints k zs).toArray[j]? = some (.int k (nth zs j)) := by
  rw [nth_eq h]; simp [ints, h]
theorem ints_set (zs : List Int) (k : IntKind) (j : Nat) (x : Int) : (ints k zs).toArray.setIfInBounds j (.int k x) = (ints k (zs.set j x)).toArray := by
  simp [ints, List.map_set]

theorem cell_step {W : World} {p q : Addr} {v : Value} (h : W.cell? p = some v) (hne : p.block ≠ q.block) (u : Value) : (W.setCell q u).cell? p = some v := by
  rw [World.cell?_setCell_other W q p u (fun e => hne (by rw [e]))]; exact h

set_option maxRecDepth 100000 in
set_option maxHeartbeats 2000000 in
/-- 'Next' of a trace. -/
theorem nextP_any (A : Option Addr) (n c : Nat) (tr : List Int) (w : World) (h : Reads w w.heap.size 1 A n (ints .u32 tr)) (hw : ∀ x ∈ tr, (Lit.int .u32 x).wf = true) (hn : n ≤ 4096) :
    Calls Try.prog 10 #[.slice A n c] w fun e w' => ∃ v, e = .returned (.tuple #[v, .int .i64 0]) ∧ w'.ownsRow w.heap.size 3 1 v n (ints .i64 (nextsTo tr n)) ∧ Below w.heap.size w w' := by
  have hl := h.int_len
  have ha : allowedE n 4096 1 = 0 := by unfold allowedE; rw [if_neg (by omega), if_neg (by omega)]
  have HA := Lib.hid (fun W => allowed_any A n c 4096 1 W)
  rw [ha] at HA
  have hmm := @run_makeMap Try.prog
  obtain ⟨i0, hi, hz0, hz1, hz2⟩ := info_parts info3
  have hmk : ∀ W : World, (Instr.makeSlice 24 (.int .i64 (n : Int)) (.int .i64 (n : Int))).run Try.prog W = .ok (.slice (some ⟨W.heap.size, 0, none⟩) n n) (W.alloc (.cells (madeCells (Value.int .i64 0).cells (n * i0.size)) 3)) :=
    fun W => run_make_rowN 24 3 i0 _ Try.underlying24 hi hz0 _ _ n n (Nat.le_refl _) (by rw [hz2]; omega) (by omega) W
  refine (callsIn_wide (n := 7)).1 ?_
  refine callsIn_of_wp_marks Try.func10 rfl trivial ?_ rfl
  simp only [Try.ntmps10, List.size_toArray, List.length_cons, List.length_nil, Nat.reduceAdd, Nat.reduceSub, Array.replicate_succ, Array.replicate_zero, List.push_toArray, List.append_toArray, List.nil_append, List.cons_append]
  gi_wp2_with (first
    | (refine ⟨trivial, ?_⟩; gi_at_call 29; refine (callsIn_wide.2 (HA.out _)).mono ?_; rintro e w' ⟨rfl, rfl⟩)
    | (refine ⟨trivial, ?_⟩; gi_at_call 30; refine (back_in _ _ _ _ _).mono ?_; rintro e w' ⟨rfl, rfl⟩))
  have hmc : (madeCells #[Value.int .i64 0] n) = (ints .i64 (List.replicate n 0)).toArray := by
    apply Array.toList_inj.1
    rw [toList_madeCells_one]
    simp [ints]
  rw [hmc]
  clear hmc
  obtain ⟨W0, hW0⟩ : ∃ W0, ((((((w.alloc (.cells #[.slice A n c] 22)).alloc (.cells (ints .i64 (List.replicate n 0)).toArray 3)).alloc (.cells #[.slice (some { block := w.heap.size + 1, off := 0 }) n n] 24)).alloc (.map #[] 0)).alloc
          (.cells #[.map (some (w.heap.size + 1 + 1 + 1))] 56)).alloc (.cells #[.slice A n c] 22)) = W0 := ⟨_, rfl⟩
  have hsz : W0.heap.size = w.heap.size + 6 := by rw [← hW0]; simp
  have hB0 : Below w.heap.size w W0 := by
    rw [← hW0]
    exact ((((((Below.refl _ w).alloc (Nat.le_refl _) _).alloc (by simp) _).alloc (by simp; omega) _).alloc (by simp; omega) _).alloc (by simp; omega) _).alloc (by simp; omega) _
  have c0 : W0.cell? ⟨w.heap.size, 0, none⟩ = some (.slice A n c) := by rw [← hW0]; clear hW0; go_simp
  have c2 : W0.cell? ⟨w.heap.size + 1 + 1, 0, none⟩ = some (.slice (some ⟨w.heap.size + 1, 0, none⟩) n n) := by rw [← hW0]; clear hW0; go_simp
  have c4 : W0.cell? ⟨w.heap.size + 1 + 1 + 1 + 1, 0, none⟩ = some (.map (some (w.heap.size + 1 + 1 + 1))) := by rw [← hW0]; clear hW0; go_simp
  have c5 : W0.cell? ⟨w.heap.size + 1 + 1 + 1 + 1 + 1, 0, none⟩ = some (.slice A n c) := by rw [← hW0]; clear hW0; go_simp
  have b1 : Blk W0 (w.heap.size + 1) 3 (ints .i64 (List.replicate n 0)).toArray := by
    rw [← hW0]
    have := Blk.new (w.alloc (.cells #[.slice A n c] 22)) 3 (ints .i64 (List.replicate n 0)).toArray
    simp only [World.size_alloc] at this
    exact (((this.alloc _).alloc _).alloc _).alloc _
  have m3 : IMap W0 (w.heap.size + 1 + 1 + 1) 0 (fun _ => none) := by
    rw [← hW0]
    have := IMap.made (((w.alloc (.cells #[.slice A n c] 22)).alloc (.cells (ints .i64 (List.replicate n 0)).toArray 3)).alloc (.cells #[.slice (some { block := w.heap.size + 1, off := 0 }) n n] 24))
    simp only [World.size_alloc] at this
    exact (this.alloc _).alloc _
  rw [hW0]
  clear hW0 hmm hmk
  have hrW : Reads W0 w.heap.size 1 A n (ints .u32 tr) := h.below hB0
  refine wpIn_rangeFunc_ownG rfl (by omega) (gf := 44) (lb := #[.pointer (some ⟨w.heap.size + 1 + 1 + 1 + 1 + 1, 0, none⟩)]) rfl trivial (enters_of Try.func44 (by kernel_rfl) rfl)
    (back_stops (w.heap.size + 1 + 1 + 1 + 1 + 1) n c A tr hl hw (by omega) (w.heap.size) W0 (by omega) (by omega) c5 hrW) KpB.t (KpB.b (by omega) (by omega)) (Below.refl _ _) (fun _ => rfl)
    (fun pre W => (W.cell? ⟨w.heap.size, 0, none⟩ = some (.slice A n c) ∧ W.cell? ⟨w.heap.size + 1 + 1, 0, none⟩ = some (.slice (some ⟨w.heap.size + 1, 0, none⟩) n n) ∧
      W.cell? ⟨w.heap.size + 1 + 1 + 1 + 1, 0, none⟩ = some (.map (some (w.heap.size + 1 + 1 + 1))) ∧ Blk W (w.heap.size + 1) 3 (ints .i64 (outs pre).1).toArray ∧ IMap W (w.heap.size + 1 + 1 + 1) pre.length (outs pre).2) ∧ Below w.heap.size w W)
    (fun _ _ _ => False)
    (OwnFrom.and (fun s X B row hs hg hr => ⟨cell_kept hs.1 hg (fun r e => (hr r e).2), cell_kept hs.2.1 hg (fun r e => (hr r e).2), cell_kept hs.2.2.1 hg (fun r e => (hr r e).2), hs.2.2.2.1.keptX hg (fun r e => (hr r e).2), hs.2.2.2.2.kept hg (fun e => by have := (hr _ e.symm).1; omega)⟩) (ownFrom_below (Nat.le_refl _) (by omega)))
    (fun _ _ _ _ _ hs _ _ => hs)
    ⟨⟨c0, c2, c4, b1, m3⟩, hB0⟩
    (fun x => { tmps := #[Value.slice A n c, Value.pointer (some { block := w.heap.size, off := 0 }), Value.slice none 0 0, Value.int IntKind.i64 0, Value.int IntKind.i64 0, Value.pointer (some { block := w.heap.size + 1 + 1, off := 0 }),
          Value.pointer (some { block := w.heap.size + 1 + 1 + 1 + 1, off := 0 }), .int .i64 x.1.1, .int .u32 x.1.2, undef, undef,
          Value.slice A n c, Value.int IntKind.i64 0, Value.int IntKind.i64 0, Value.bool false, undef,
          Value.slice A n c, Value.int IntKind.i64 ↑n, Value.slice (some { block := w.heap.size + 1, off := 0 }) n n,
          Value.map (some (w.heap.size + 1 + 1 + 1)), Value.slice A n c,
          Value.func (Fn.func 44) #[] #[Value.pointer (some { block := w.heap.size + 1 + 1 + 1 + 1 + 1, off := 0 })],
          .int .i64 x.1.1, .int .u32 x.1.2, undef, undef, undef, undef, undef, undef, undef, undef, undef, undef, undef, undef, undef, undef, undef, undef, undef, undef, undef, undef], defers := [] }) ?assign ?body ?done ?stop
  case assign =>
    intro l x W K hK
    gi_wp2
    exact hK
  case body =>
    rintro l pre ⟨⟨i, k⟩, hik, hkw⟩ W ⟨⟨c1, c2', c3, hblk, hmap⟩, hB⟩ hlt
    have hol := outs_len pre
    have hcell := hblk.cell i
    have hfr := hblk.frozen i
    rw [ints_at (by omega)] at hcell
    have hik' : i < n := hik
    have hwi : (Lit.int .i64 (i : Int)).wf = true := WalkArith.wf_i64 (by omega)
    have hkw' : (Lit.int .u32 k).wf = true := hkw
    have hB' := Lib.hid hB
    have HO := Lib.hid hol
    have hlp : pre.length < maxLen := by unfold maxLen; omega
    clear hol hB
    cases hm : (outs pre).2 k with
    | none =>
      have HM := Lib.hid hm
      clear hm
      gi_wp2_with (first
        | (gi_at_lookup; go_must (refine wpListIn_look_imap rfl (.tmp 30) (.tmp 31) rfl (w.heap.size + 1 + 1 + 1) pre.length (outs pre).2 k rfl (hmap.setCell (by simp; omega) _) rfl hkw' 0 false (by rw [HM.out]; rfl) (by rw [HM.out]; rfl) ?_))
        | (gi_at_mapUpdate; go_must (refine wpListIn_put_imap rfl (.tmp 40) (.tmp 41) (.tmp 42) rfl (w.heap.size + 1 + 1 + 1) pre.length (outs pre).2 k i rfl (hmap.setCell (by simp; omega) _) rfl rfl hkw' hwi hlp ?_); intro w1 hm1 hg1))
      have hbl : some (w.heap.size + 1) ≠ some (w.heap.size + 1 + 1 + 1) := by simp
      refine ⟨((KeepsOthers.setCell _ _ _).from _).trans (KeepsFrom.of_grownBy hg1 (fun j e => by cases e; omega)),
        ⟨((Below.refl _ W).setCell (by simp <;> omega) _).grown hg1 (by simpa using hB'.out.size) (fun j e => by cases e; omega), fun v hv => hg1.cell (cell_step hv (by simp <;> omega) _) (by simp <;> omega)⟩,
        ⟨hg1.cell (cell_step c1 (by simp <;> omega) _) (by simp <;> omega), hg1.cell (cell_step c2' (by simp <;> omega) _) (by simp <;> omega), hg1.cell (cell_step c3 (by simp <;> omega) _) (by simp <;> omega), ?_, ?_⟩,
        (hB'.out.setCell (by simp <;> omega) _).grown hg1 (by simpa using hB'.out.size) (fun j e => by cases e; omega)⟩
      · have := (hblk.set_ i (.int .i64 n)).grown hg1 hbl
        rw [ints_set] at this
        rw [outs_snoc, HM.out]
        exact this
      · rw [outs_snoc, List.length_append]; exact hm1
    | some v =>
      have HM := Lib.hid hm
      have hcell2 : ∀ u : Int, (W.setCell ⟨w.heap.size + 1, i, none⟩ (.int .i64 u)).cell? ⟨w.heap.size + 1, i, none⟩ = some (.int .i64 u) := fun u => World.cell?_setCell_same' _ _ _ (by rw [hcell]; rfl)
      have hcell3 := Lib.hid hcell2
      clear hm hcell2
      gi_wp2_with (first
        | (gi_at_lookup; go_must (refine wpListIn_look_imap rfl (.tmp 30) (.tmp 31) rfl (w.heap.size + 1 + 1 + 1) pre.length (outs pre).2 k rfl (hmap.setCell (by simp <;> omega) _) rfl hkw' v true (by rw [HM.out]; rfl) (by rw [HM.out]; rfl) ?_))
        | (gi_at_mapUpdate; go_must (refine wpListIn_put_imap rfl (.tmp 40) (.tmp 41) (.tmp 42) rfl (w.heap.size + 1 + 1 + 1) pre.length (outs pre).2 k i rfl ((hmap.setCell (by simp <;> omega) _).setCell (by simp <;> omega) _) rfl rfl hkw' hwi hlp ?_); intro w1 hm1 hg1))
      have hbl : some (w.heap.size + 1) ≠ some (w.heap.size + 1 + 1 + 1) := by simp
      refine ⟨(((KeepsOthers.setCell _ _ _).from _).trans ((KeepsOthers.setCell _ _ _).from _)).trans (KeepsFrom.of_grownBy hg1 (fun j e => by cases e; omega)),
        ⟨(((Below.refl _ W).setCell (by simp <;> omega) _).setCell (by simp <;> omega) _).grown hg1 (by simpa using hB'.out.size) (fun j e => by cases e; omega), fun v hv => hg1.cell (cell_step (cell_step hv (by simp <;> omega) _) (by simp <;> omega) _) (by simp <;> omega)⟩,
        ⟨hg1.cell (cell_step (cell_step c1 (by simp <;> omega) _) (by simp <;> omega) _) (by simp <;> omega), hg1.cell (cell_step (cell_step c2' (by simp <;> omega) _) (by simp <;> omega) _) (by simp <;> omega), hg1.cell (cell_step (cell_step c3 (by simp <;> omega) _) (by simp <;> omega) _) (by simp <;> omega), ?_, ?_⟩,
        ((hB'.out.setCell (by simp <;> omega) _).setCell (by simp <;> omega) _).grown hg1 (by simpa using hB'.out.size) (fun j e => by cases e; omega)⟩
      · have := ((hblk.set_ i (.int .i64 n)).set_ i (.int .i64 v)).grown hg1 hbl
        rw [ints_set, ints_set, List.set_set] at this
        rw [outs_snoc, HM.out]
        exact this
      · rw [outs_snoc, List.length_append]; exact hm1
  case done =>
    rintro D ys W hD rfl ⟨⟨c1, c2', c3, hblk, hmap⟩, hB⟩ hK
    gi_wp2
    refine ⟨by simp, .inl ⟨_, _, rfl, run_takeDeferred hK, ?_⟩⟩
    have hoa := outs_all hl hw
    have hol := nextsTo_len tr n
    have hblk' := hblk.grown (grownBy_putObj' W D (.deferred none)) (fun e => by cases e; omega)
    rw [hoa] at hblk'
    refine ⟨_, results_tmp2 rfl _ _ _, _, rfl, ⟨by simp [ints, hol], .inr ⟨w.heap.size + 1, n, _, rfl, by omega, hblk', Nat.le_refl _, by unfold maxLen; omega, by simp [ints, hol], ?_⟩⟩,
      hB.trans (belowK_b (w := W0) (by omega) W D _ _ hD hK rfl rfl)⟩
    rw [List.take_of_length_le (by simp [ints, hol])]
  case stop =>
    rintro D c pre W _ _ h _
    exact h.elim
end Go.Proofs.Ythclmacnmbmepaa
