import Derived.Test.YthclmacnmbmepaaWd
namespace Go.Proofs.Ythclmacnmbmepaa
open Go.RowKit Bel

/-- The place that leaves first among the first ones. -/
def minTo (ps : List (Int × Int)) : Nat → Int × Int
  | 0 => pnth ps 0
  | j + 1 => if laterI (pkey ps j) (pnext ps j) (minTo ps j).1 (minTo ps j).2 < 0 then pnth ps j else minTo ps j
theorem minTo_one (ps : List (Int × Int)) : minTo ps 1 = pnth ps 0 := by
  unfold minTo
  split <;> rfl
theorem minTo_yes {ps : List (Int × Int)} {j : Nat} (h : laterI (pkey ps j) (pnext ps j) (minTo ps j).1 (minTo ps j).2 < 0) : minTo ps (j + 1) = pnth ps j := by rw [minTo, if_pos h]
theorem minTo_no {ps : List (Int × Int)} {j : Nat} (h : ¬ laterI (pkey ps j) (pnext ps j) (minTo ps j).1 (minTo ps j).2 < 0) : minTo ps (j + 1) = minTo ps j := by rw [minTo, if_neg h]
def minK (ps : List (Int × Int)) (j : Nat) : Int := (minTo ps j).1
def minX (ps : List (Int × Int)) (j : Nat) : Int := (minTo ps j).2

set_option maxHeartbeats 800000 in
/-- slices.MinFunc with 'later'. -/
theorem minFunc_any (A : Option Addr) (n c : Nat) (ps : List (Int × Int)) (w : World) (h : Reads w w.heap.size 2 A n (pcells ps)) (hn : n ≤ 1000000) (h1 : 1 ≤ n) :
    Calls Try.prog 34 #[.slice A n c, .func (.func 35) #[] #[]] w fun e w' => e = .returned (.agg #[.int .u32 (minK ps n), .int .i64 (minX ps n)]) ∧ Below w.heap.size w w' := by
  obtain ⟨b, o, rfl, hbl, h0, h00⟩ := h.place_at (j := 0) (by omega)
  simp only [Nat.zero_mul, Nat.add_zero] at h0 h00
  have hd : decide ((n : Int) < 1) = false := by simp; omega
  go_enter Try.func34, Try.ntmps34
  go_wp2
  go_loopw [6] (fun x wr => Below w.heap.size w wr ∧ Blk wr w.heap.size 65 #[.int .u32 0, .int .i64 0] ∧ ∃ j : Nat, 1 ≤ j ∧ j ≤ n ∧ x = .int .i64 j ∧ Blk wr (w.heap.size + 1) 65 #[.int .u32 (minK ps j), .int .i64 (minX ps j)]) (fun x _ => n - (intOf x).toNat)
  case atStart =>
    refine ⟨((Below.refl _ w).alloc (Nat.le_refl _) _).alloc (by simp) _, (Blk.new w _ _).alloc _, 1, Nat.le_refl _, h1, rfl, ?_⟩
    have hb := Blk.new (w.alloc (.cells #[.int .u32 0, .int .i64 0] 65)) 65 #[.int .u32 (pkey ps 0), .int .i64 (pnext ps 0)]
    simp only [World.size_alloc] at hb
    simpa [minK, minX, minTo_one, pkey, pnext] using hb
  case round =>
    obtain ⟨hb, hb0, j, hj1, hj, rfl, hb1⟩ := hrel
    have hsz := hb1.lt
    by_cases hlt : j < n
    · obtain ⟨b', o', e, _, hc0, hc1⟩ := (h.below hb).place_at hlt
      injection e with e
      injection e with e1 e2
      subst e1 e2
      have m0 := hb1.cell 0
      have m1 := hb1.cell 1
      simp only [List.getElem?_toArray, List.getElem?_cons_zero, List.getElem?_cons_succ] at m0 m1
      have hbo : b < wr.heap.size := by omega
      have hj0 : (0 : Int) ≤ (j : Int) := Int.natCast_nonneg _
      have hj1' : (j : Int) < (n : Int) := by omega
      by_cases hq : laterI (pkey ps j) (pnext ps j) (minK ps j) (minX ps j) < 0
      · go_wp2_with fail
        go_region_held3 (fun w' => w'.cell? ⟨b, o + j * 2, none⟩ = some (.int .u32 (pkey ps j)) ∧ w'.cell? ⟨b, o + j * 2 + 1, none⟩ = some (.int .i64 (pnext ps j)) ∧ w'.cell? ⟨w.heap.size + 1, 0, none⟩ = some (.int .u32 (minK ps j)) ∧ w'.cell? ⟨w.heap.size + 1, 1, none⟩ = some (.int .i64 (minX ps j)))
          (first
            | go_keep
            | (exact ⟨(hb2.cell (p := ⟨b, o + j * 2, none⟩) hbo).trans hc0, (hb2.cell (p := ⟨b, o + j * 2 + 1, none⟩) hbo).trans hc1, (hb2.cell (p := ⟨w.heap.size + 1, 0, none⟩) hsz).trans m0, (hb2.cell (p := ⟨w.heap.size + 1, 1, none⟩) hsz).trans m1⟩))
          (first
            | (go_at_call 35; refine (later_any _ _ _ _ _).mono ?_; rintro e w2 ⟨rfl, hb2⟩))
        have B0 : Blk w2 w.heap.size 65 #[.int .u32 0, .int .i64 0] := (hb0.drew).below hb2 (by simp; omega)
        have B2 : Blk w2 (w.heap.size + 1) 65 #[.int .u32 (minK ps j), .int .i64 (minX ps j)] := (hb1.drew).below hb2 hsz
        have g0 := B2.cell 0
        have g1 := B2.cell 1
        have f0 := B2.frozen 0
        have f1 := B2.frozen 1
        have k0 := (hb2.cell (p := ⟨b, o + j * 2, none⟩) hbo).trans hc0
        have k1 := (hb2.cell (p := ⟨b, o + j * 2 + 1, none⟩) hbo).trans hc1
        simp only [List.getElem?_toArray, List.getElem?_cons_zero, List.getElem?_cons_succ] at g0 g1
        have hbw : Below w.heap.size w w2 := hb.drew.trans (hb2.mono (by simpa using hb.size))
        have HB := Lib.hid hbw
        have HB0 := Lib.hid B0
        have HB2 := Lib.hid B2
        clear hbw B0 B2 hb0 hb1 hb2 hb
        go_wp2
        go_roundw
        case rel =>
          refine ⟨(HB.out.setCell (by simp) _).setCell (by simp) _, (HB0.out.far (by simp) _).far (by simp) _, j + 1, by omega, by omega, by go_num, ?_⟩
          have := (HB2.out.set_ 0 (.int .u32 (pkey ps j))).set_ 1 (.int .i64 (pnext ps j))
          simpa [minK, minX, minTo_yes hq, pkey, pnext] using this
        case measure => simp [intOf]; omega
      · go_wp2_with fail
        go_region_held3 (fun w' => w'.cell? ⟨b, o + j * 2, none⟩ = some (.int .u32 (pkey ps j)) ∧ w'.cell? ⟨b, o + j * 2 + 1, none⟩ = some (.int .i64 (pnext ps j)) ∧ w'.cell? ⟨w.heap.size + 1, 0, none⟩ = some (.int .u32 (minK ps j)) ∧ w'.cell? ⟨w.heap.size + 1, 1, none⟩ = some (.int .i64 (minX ps j)))
          (first
            | go_keep
            | (exact ⟨(hb2.cell (p := ⟨b, o + j * 2, none⟩) hbo).trans hc0, (hb2.cell (p := ⟨b, o + j * 2 + 1, none⟩) hbo).trans hc1, (hb2.cell (p := ⟨w.heap.size + 1, 0, none⟩) hsz).trans m0, (hb2.cell (p := ⟨w.heap.size + 1, 1, none⟩) hsz).trans m1⟩))
          (first
            | (go_at_call 35; refine (later_any _ _ _ _ _).mono ?_; rintro e w2 ⟨rfl, hb2⟩))
        have B0 : Blk w2 w.heap.size 65 #[.int .u32 0, .int .i64 0] := (hb0.drew).below hb2 (by simp; omega)
        have B2 : Blk w2 (w.heap.size + 1) 65 #[.int .u32 (minK ps j), .int .i64 (minX ps j)] := (hb1.drew).below hb2 hsz
        have hbw : Below w.heap.size w w2 := hb.drew.trans (hb2.mono (by simpa using hb.size))
        have HB := Lib.hid hbw
        have HB0 := Lib.hid B0
        have HB2 := Lib.hid B2
        clear hbw B0 B2 hb0 hb1 hb2 hb
        go_wp2
        go_roundw
        case rel =>
          refine ⟨HB.out, HB0.out, j + 1, by omega, by omega, by go_num, ?_⟩
          have := HB2.out
          simpa [minK, minX, minTo_no (Int.not_lt.2 hq)] using this
        case measure => simp [intOf]; omega
    · obtain rfl : j = n := by omega
      have m0 := hb1.cell 0
      have m1 := hb1.cell 1
      have g0 := hb0.cell 0
      have g1 := hb0.cell 1
      have f0 := hb0.frozen 0
      have f1 := hb0.frozen 1
      simp only [List.getElem?_toArray, List.getElem?_cons_zero, List.getElem?_cons_succ] at m0 m1 g0 g1
      have HB := Lib.hid hb
      have HB0 := Lib.hid hb0
      clear hb hb0 hb1
      go_wp2
      refine bodyPost_ret (v := .agg #[.int .u32 (minK ps j), .int .i64 (minX ps j)]) (by simp [results, Try.results34, go_sem, g0, g1]) rfl ⟨rfl, (HB.out.setCell (by simp) _).setCell (by simp) _⟩

theorem run_eql_place (w : World) (a b a' b' : Int) :
    (binOp .eql 65 (.agg #[.int .u32 a, .int .i64 b]) (.agg #[.int .u32 a', .int .i64 b'])).run Try.prog w = .ok (.bool (a == a' && b == b')) w := by
  have hS : Try.prog.underlying 65 = some (.struct (Try.prog.fieldsOf 65)) := by kernel_rfl
  have hp : Try.prog.stoodInHeld 65 = false := by kernel_rfl
  rw [run_eql_struct, show (10000 : Nat) = 9999 + 1 from rfl, run_equalIn_agg w 9999 65 _ _ hS hp]
  have u3 := Try.underlying3
  have u45 := Try.underlying45
  have a3 := Try.isAgg3
  have z3 := Try.sizeOf3
  have a45 := Try.isAgg45
  have z45 := Try.sizeOf45
  simp only [Program.fieldsOf, Try.underlying65]
  go_simp
  by_cases h : a = a' <;> by_cases h' : b = b' <;> simp [h, h']

set_option maxHeartbeats 400000 in
/-- slices.Index of a place. -/
theorem indexPlace_any (A : Option Addr) (n c : Nat) (ps : List (Int × Int)) (k x : Int) (w : World) (h : Reads w w.heap.size 2 A n (pcells ps)) (hn : n ≤ 1000000) :
    Calls Try.prog 36 #[.slice A n c, .agg #[.int .u32 k, .int .i64 x]] w fun e w' => Below w.heap.size w w' ∧
      ((e = .returned (.int .i64 (-1)) ∧ ∀ i, i < n → pnth ps i ≠ (k, x)) ∨ ∃ j : Nat, j < n ∧ pnth ps j = (k, x) ∧ e = .returned (.int .i64 j)) := by
  go_enter Try.func36, Try.ntmps36
  go_wp2
  go_loopw [8] (fun u wr => (∃ q, wr = (w.alloc (.cells #[.int .u32 k, .int .i64 x] 65)).drewN q) ∧ ∃ j : Nat, j ≤ n ∧ u = .int .i64 j ∧ ∀ i, i < j → pnth ps i ≠ (k, x)) (fun u _ => n - (intOf u).toNat)
  case atStart => exact ⟨⟨0, rfl⟩, 0, Nat.zero_le _, rfl, fun i hi => by omega⟩
  case round =>
    obtain ⟨⟨q, rfl⟩, j, hj, rfl, he⟩ := hrel
    have HE := Lib.hid he
    clear he
    have hbw : Below w.heap.size w (w.alloc (.cells #[.int .u32 k, .int .i64 x] 65)) := (Below.refl _ w).alloc (Nat.le_refl _) _
    by_cases hlt' : j < n
    · obtain ⟨b, o, rfl, _, h0, h1⟩ := h.place_at hlt'
      have hrun := fun W => run_eql_place W k x (pkey ps j) (pnext ps j)
      by_cases hk : pnth ps j = (k, x)
      · have hb : (k == pkey ps j && x == pnext ps j) = true := by simp [pkey, pnext, hk]
        have HK := Lib.hid hk
        clear hk
        rw [hb] at hrun
        clear hb
        go_wp2
        go_quiet (fail)
        all_goals go_wp2
        go_ret
        exact ⟨below_drewN (below_drewN hbw _) _, .inr ⟨j, hlt', HK.out, rfl⟩⟩
      · have hb : (k == pkey ps j && x == pnext ps j) = false := by
          rw [Bool.eq_false_iff]
          intro e
          simp only [Bool.and_eq_true, beq_iff_eq] at e
          exact hk (by unfold pkey pnext at e; rw [e.1, e.2])
        have HK := Lib.hid hk
        clear hk
        rw [hb] at hrun
        clear hb
        go_wp2
        go_quiet (fail)
        all_goals go_wp2
        go_roundw
        case rel => exact ⟨⟨_, rfl⟩, j + 1, by omega, by go_num, fun i hi => by
          rcases Nat.lt_succ_iff_lt_or_eq.1 hi with h1 | h1
          · exact HE.out i h1
          · rw [h1]; exact HK.out⟩
        case measure => simp [intOf]; omega
    · go_wp2
      go_ret
      exact ⟨below_drewN hbw _, .inl ⟨rfl, fun i hi => HE.out i (by omega)⟩⟩
end Go.Proofs.Ythclmacnmbmepaa
