import Derived.Test.YthclmacnmbmepaaWe
import Derived.Deep.RegionLaw
namespace Go.Proofs.Ythclmacnmbmepaa
open Go.RowKit Bel

theorem setCells_blk {g : Nat} {e : TypeId} {fr : Nat × Nat} : ∀ (vs : List Value) (o : Nat) (w : World) (cur : Array Value), w.heap[g]? = some (.cells cur e fr) → o + vs.length ≤ cur.size →
    (w.setCells g o vs).heap[g]? = some (.cells (cur.toList.take o ++ vs ++ cur.toList.drop (o + vs.length)).toArray e fr) := by
  intro vs
  induction vs with
  | nil =>
    intro o w cur h _
    simp only [World.setCells, List.append_nil, List.length_nil, Nat.add_zero, List.take_append_drop]
    simpa using h
  | cons v vs ih =>
    intro o w cur h hl
    simp only [List.length_cons] at hl
    have h1 : (w.setCell ⟨g, o, none⟩ v).heap[g]? = some (.cells (cur.setIfInBounds o v) e fr) := by
      simp [World.setCell, Array.getElem?_modify, h]
    rw [World.setCells, ih (o + 1) _ _ h1 (by simp; omega)]
    have hlen : o < cur.toList.length := by simp; omega
    congr 2
    have e1 : (cur.setIfInBounds o v).toList = cur.toList.take o ++ v :: cur.toList.drop (o + 1) := by
      rw [Array.toList_setIfInBounds, List.set_eq_take_append_cons_drop, if_pos hlen]
    rw [e1]
    have hto : (cur.toList.take o).length = o := by rw [List.length_take]; omega
    rw [List.take_append, List.drop_append, hto]
    simp only [List.take_take, List.drop_eq_nil_of_le (show (cur.toList.take o).length ≤ o + 1 + vs.length by rw [hto]; omega)]
    have e2 : o + 1 - o = 1 := by omega
    have e3 : o + 1 + vs.length - o = vs.length + 1 := by omega
    rw [e2, e3, Nat.min_eq_right (by omega)]
    simp only [List.take_succ_cons, List.take_zero, List.drop_succ_cons, List.drop_drop, List.length_cons]
    simp only [List.append_assoc, List.cons_append, List.nil_append]
    congr 5
    omega
theorem setCells_grown {g : Nat} : ∀ (vs : List Value) (o : Nat) (w : World), w.grownBy (w.setCells g o vs) (some g) := by
  intro vs
  induction vs with
  | nil => intro o w; exact World.grownBy.refl w _
  | cons v vs ih => intro o w; exact (only_setCell (g := g) (p := ⟨g, o, none⟩) (World.grownBy.refl w _) (.inl rfl) v).trans (ih _ _)

theorem pcells_take (ps : List (Int × Int)) : ∀ i, pcells (ps.take i) = (pcells ps).take (i * 2) := by
  induction ps with
  | nil => intro i; simp [pcells]
  | cons p ps ih =>
    intro i
    cases i with
    | zero => simp [pcells]
    | succ i =>
      have e : pcells (p :: ps) = .int .u32 p.1 :: .int .i64 p.2 :: pcells ps := by simp [pcells]
      have e' : pcells (p :: ps.take i) = .int .u32 p.1 :: .int .i64 p.2 :: pcells (ps.take i) := by simp [pcells]
      rw [List.take_succ_cons, e', e, ih i, show (i + 1) * 2 = i * 2 + 1 + 1 by omega]
      rfl
theorem pcells_drop (ps : List (Int × Int)) : ∀ i, pcells (ps.drop i) = (pcells ps).drop (i * 2) := by
  induction ps with
  | nil => intro i; simp [pcells]
  | cons p ps ih =>
    intro i
    cases i with
    | zero => simp [pcells]
    | succ i =>
      have e : pcells (p :: ps) = .int .u32 p.1 :: .int .i64 p.2 :: pcells ps := by simp [pcells]
      rw [List.drop_succ_cons, e, ih i, show (i + 1) * 2 = i * 2 + 1 + 1 by omega]
      rfl
theorem pcells_app (ps qs : List (Int × Int)) : pcells (ps ++ qs) = pcells ps ++ pcells qs := by simp [pcells]
theorem pcells_one (ps : List (Int × Int)) : ∀ u ∈ pcells ps, u.oneCell' = true := by
  intro u hu
  unfold pcells at hu
  obtain ⟨p, _, h⟩ := List.mem_flatMap.1 hu
  simp at h
  rcases h with rfl | rfl <;> rfl

theorem zero_place : Builtin.zeroCells (Value.agg #[.int .u32 0, .int .i64 0]).cells 1 = #[.int .u32 0, .int .i64 0] := by
  refine Array.ext (by simp [Builtin.zeroCells, Value.cells]) fun i h1 h2 => ?_
  simp only [List.size_toArray, List.length_cons, List.length_nil] at h2
  match i, h2 with
  | 0, _ => simp [Builtin.zeroCells, Value.cells]
  | 1, _ => simp [Builtin.zeroCells, Value.cells]
theorem run_clear_place (W : World) (ty : TypeId) (g o c : Nat) (hc : ∀ j, j < 2 → (W.cell? ⟨g, o + j, none⟩).isSome = true) (hf : ∀ j, j < 2 → W.frozen? ⟨g, o + j, none⟩ = false) :
    (Builtin.clear_ #[62] ty #[.slice (some ⟨g, o, none⟩) 1 c]).run Try.prog W = .ok (.tuple #[]) (W.setCells g o [.int .u32 0, .int .i64 0]) := by
  have hst := run_storeCells_cells (P := Try.prog) g o [.int .u32 0, .int .i64 0] 0 W (by simpa using hc) (by simpa using hf) (by intro v hv'; simp at hv'; rcases hv' with rfl | rfl <;> rfl)
  simp only [Nat.add_zero] at hst
  simp only [Builtin.clear_, List.getElem?_toArray, List.getElem?_cons_zero, Sem.run_bind, Try.runUnderlying62, Result.andThen_ok, Try.zeroValue65, zero_place, hst, Sem.run_pure]

set_option maxHeartbeats 1600000 in
/-- slices.Delete of one place, in a row of the caller's own. -/
theorem delete_any (g n cap i base : Nat) (ps : List (Int × Int)) (w : World) (hown : w.ownsRow base 65 2 (.slice (some ⟨g, 0, none⟩) n cap) n (pcells ps)) (hi : i < n) (hn : n ≤ 1000000) :
    Calls Try.prog 37 #[.slice (some ⟨g, 0, none⟩) n cap, .int .i64 i, .int .i64 (i + 1 : Nat)] w fun e w' => e = .returned (.slice (some ⟨g, 0, none⟩) (n - 1) cap) ∧
      w'.ownsRow base 65 2 (.slice (some ⟨g, 0, none⟩) (n - 1) cap) (n - 1) (pcells (ps.eraseIdx i)) ∧ w.grownBy w' (some g) := by
  obtain ⟨i0, hi0, hz0, hz1, hz2⟩ := info_parts (show (Try.prog.info? 65).map (fun i => (i.zero, i.size, i.bytes)) = some (some (.agg #[.int .u32 0, .int .i64 0]), 2, 16) by kernel_rfl)
  have hlen : ps.length = n := by have := hown.1; rw [pcells_len] at this; omega
  obtain ⟨hbg, cur, hcur, hnc, hcm, hcs, htake⟩ : base ≤ g ∧ ∃ cur, w.heap[g]? = some (.cells cur 65 (0, 0)) ∧ n ≤ cap ∧ cap ≤ maxLen ∧ cur.size = cap * 2 ∧ cur.toList.take (n * 2) = pcells ps := by
    rcases hown.2 with ⟨h, _⟩ | ⟨g', cap', cur, h, hb, hh, h1, h2, h3, h4⟩
    · simp at h
    · simp only [Value.slice.injEq, Option.some.injEq, Addr.mk.injEq, and_true, true_and] at h
      obtain ⟨rfl, rfl⟩ := h
      exact ⟨hb, cur, hh, h1, h2, h3, h4⟩
  have hcell : ∀ (W : World), W.heap[g]? = some (.cells cur 65 (0, 0)) → ∀ k, W.cell? ⟨g, k, none⟩ = cur[k]? := fun W hW k => cell_of_row W g k cur 65 (0, 0) hW
  -- what is moved
  obtain ⟨mv, hmv⟩ : ∃ mv, mv = (pcells ps).drop ((i + 1) * 2) := ⟨_, rfl⟩
  have hmvl : mv.length = (n - (i + 1)) * 2 := by rw [hmv, List.length_drop, pcells_len, hlen]; omega
  obtain ⟨A, hA, hnews⟩ : ∃ A : Addr, (if cap = i + 1 then some (⟨g, 0, none⟩ : Addr) else some ⟨g, (i + 1) * 2, none⟩) = some A ∧ Hid (∀ j u, mv[j]? = some u → w.drew.cell? (A.add j) = some u) := by
    by_cases h : cap = i + 1
    · refine ⟨⟨g, 0, none⟩, by simp [h], fun j u hu => ?_⟩
      have h0 : mv.length = 0 := by rw [hmvl]; omega
      rw [List.length_eq_zero_iff.1 h0] at hu
      simp at hu
    · refine ⟨⟨g, (i + 1) * 2, none⟩, by simp [h], fun j u hu => ?_⟩
      rw [add_spot _ _ rfl]
      have hj : j < mv.length := (List.getElem?_eq_some_iff.1 hu).1
      rw [hmv, List.getElem?_drop, ← htake, List.getElem?_take_of_lt (by rw [hmvl] at hj; omega)] at hu
      exact (hcell w hcur _).trans (by simpa using hu)
  have s1 : Hid (mv.length = (n - (i + 1)) * 2) := hmvl
  have s2 : Hid (∀ u ∈ mv, u.oneCell' = true) := fun u hu => pcells_one ps u (by rw [hmv] at hu; exact List.mem_of_mem_drop hu)
  have s3 : Hid (∀ j, j < mv.length → (w.drew.cell? ⟨g, 0 + i * 2 + j, none⟩).isSome = true ∧ w.drew.frozen? ⟨g, 0 + i * 2 + j, none⟩ = false) := by
    intro j hj
    rw [hmvl] at hj
    refine ⟨?_, by show w.frozen? _ = false; simp [World.frozen?, hcur]⟩
    show (w.cell? _).isSome = true
    rw [hcell w hcur, Array.getElem?_eq_getElem (by omega)]
    rfl
  have hwr : IntKind.i64.wrap ((i : Int) + 1) = (i : Int) + 1 := by rw [IntKind.wrap_i64]; omega
  have hb1 : ((i : Int) == ((i + 1 : Nat) : Int)) = false := by rw [beq_eq_false_iff_ne]; omega
  have hic : i ≤ cap := by omega
  have hp0 : (0 : Int) ≤ (i : Int) := by omega
  have hp2 : (0 : Int) ≤ (i : Int) + 1 := by omega
  have hp1 : (i : Int) + 1 ≤ (n : Int) := by omega
  have HC := Lib.hid hcell
  have HM := Lib.hid hmv
  have HL := Lib.hid hlen
  have HT := Lib.hid htake
  have HU := Lib.hid hcur
  have HS := Lib.hid hcs
  have HW := Lib.hid hown
  clear hcell hmv hlen htake hcur hcs hown hmvl
  go_enter Try.func37, Try.ntmps37
  go_wp2
  go_region_law (refine step_append_room rfl (.tmp 22) (.tmp 25) 62 rfl 65 i0 2 Try.underlying62 hi0 hz1 g 0 i cap (by simp [Act.eval, Act.put]) A (n - (i + 1)) (cap - (i + 1)) mv (by simp [Act.eval, Act.put]) s1.out hnews.out s2.out (by omega) s3.out ?_)
  have e1 : i + (n - (i + 1)) = n - 1 := by omega
  rw [e1]
  clear e1
  obtain ⟨W1, hW1⟩ : ∃ W1, W1 = w.drew.setCells g (i * 2) mv := ⟨_, rfl⟩
  rw [← hW1]
  have HW1 := Lib.hid hW1
  have hc1 : W1.heap[g]? = some (.cells (cur.toList.take (i * 2) ++ mv ++ cur.toList.drop (i * 2 + mv.length)).toArray 65 (0, 0)) := by
    rw [hW1]; exact setCells_blk mv (i * 2) w.drew cur HU.out (by have := HS.out; have := s1.out; omega)
  have hsz1 : (cur.toList.take (i * 2) ++ mv ++ cur.toList.drop (i * 2 + mv.length)).toArray.size = cap * 2 := by
    have := HS.out; have := s1.out
    simp; omega
  have hclr := run_clear_place W1 0 g ((n - 1) * 2) (cap - (n - 1))
    (fun j hj => by rw [cell_of_row W1 g _ _ 65 (0, 0) hc1, Array.getElem?_eq_getElem (by omega)]; rfl)
    (fun j hj => by simp [World.frozen?, hc1])
  have HC1 := Lib.hid hc1
  have HS1 := Lib.hid hsz1
  clear hc1 hsz1 hW1
  obtain ⟨m, hm⟩ : ∃ m, n = m + 1 := ⟨n - 1, by omega⟩
  subst hm
  simp only [Nat.add_sub_cancel] at hclr ⊢
  go_wp2
  go_ret
  refine ⟨rfl, ?_, ?_⟩
  · refine ⟨?_, .inr ⟨g, cap, _, rfl, hbg, setCells_blk [.int .u32 0, .int .i64 0] (m * 2) W1 _ HC1.out (by rw [HS1.out]; simp; omega), by omega, hcm, ?_, ?_⟩⟩
    · rw [pcells_len, List.length_eraseIdx, HL.out]; split <;> omega
    · have := HS1.out
      simp at this ⊢; omega
    · have h1 := s1.out
      have h2 := HS.out
      have h3 : (cur.toList.take (i * 2) ++ mv).length = m * 2 := by simp; omega
      have h4 : (cur.toList.take (i * 2) ++ mv ++ cur.toList.drop (i * 2 + mv.length)).take (m * 2) = cur.toList.take (i * 2) ++ mv := by
        rw [← h3, List.take_left]
      simp only [Nat.add_sub_cancel, h4]
      rw [List.append_assoc, ← h3, List.take_left]
      rw [List.eraseIdx_eq_take_drop_succ, pcells_app, pcells_take, pcells_drop, HM.out, ← HT.out, List.take_take, Nat.min_eq_left (by omega)]
  · rw [HW1.out]
    exact (only_drew (World.grownBy.refl w (some g))).trans ((setCells_grown _ _ _).trans (setCells_grown _ _ _))
end Go.Proofs.Ythclmacnmbmepaa
