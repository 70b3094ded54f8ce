/- WatchFits: for every rule and every event the law answers true and both read as before. No condition. -/
import Derived.Test.YtfimgkjdfjlkhaaMt
namespace Go.Proofs.Ytfimgkjdfjlkhaa
open Go.ChangeShapes Go.WideShapes Go.ChangeAt Go.RowKit Go.Deep

set_option maxRecDepth 100000 in
set_option maxHeartbeats 2000000 in
theorem fits_law (r : Ri) (h : Hv) (w : World) (hk : KindsAt w r) :
    Calls Try.prog 3 #[r.v, h.v] w fun e w' => e = .returned (.bool true) ∧ Below w.heap.size w w' := by
  obtain ⟨p, kinds, room, oldest, kA, kc⟩ := r
  obtain ⟨⟨kd, key, val, birth, due, at_⟩, A, c⟩ := h
  have hW := show Below w.heap.size w ((w.alloc (.cells #[.string p, .slice kA kinds.length kc, .int .i64 room, .bool oldest] 24)).alloc (.cells #[.int .i64 kd, .string key, .slice A val.length c, .int .u64 birth, .int .u64 due, .int .u64 at_] 30)) from
    ((Below.refl _ w).alloc (Nat.le_refl _) _).alloc (by simp) _
  have k0 := (Blk.new w 24 #[.string p, .slice kA kinds.length kc, .int .i64 room, .bool oldest]).alloc (.cells #[.int .i64 kd, .string key, .slice A val.length c, .int .u64 birth, .int .u64 due, .int .u64 at_] 30)
  have k1 := Blk.new (w.alloc (.cells #[.string p, .slice kA kinds.length kc, .int .i64 room, .bool oldest] 24)) 30 #[.int .i64 kd, .string key, .slice A val.length c, .int .u64 birth, .int .u64 due, .int .u64 at_]
  rw [World.size_alloc] at k1
  have HKA := Lib.hid (hk.below hW)
  have HW := Lib.hid hW
  have HK0 := Lib.hid k0
  have HK1 := Lib.hid k1
  clear hW k0 k1 hk
  unfold Ri.v Hv.v
  simp only
  by_cases c0 : (10 : Int) < (kinds.length : Int)
  · clear HKA
    go_enter Try.func3, Try.ntmps3
    go_wp2_with fail
    refine (known_any _).mono ?_
    rintro e w1 ⟨rfl, hb1⟩
    have HB1 := Lib.hid (HW.out.trans (hb1.mono HW.out.size))
    clear hb1
    go_wp2
    go_ret
    exact ⟨rfl, HB1.out⟩
  · by_cases c1 : (300 : Int) < (p.size : Int)
    · clear HKA
      go_enter Try.func3, Try.ntmps3
      go_wp2_with fail
      refine (known_any _).mono ?_
      rintro e w1 ⟨rfl, hb1⟩
      have HB1 := Lib.hid (HW.out.trans (hb1.mono HW.out.size))
      clear hb1
      go_wp2
      go_ret
      exact ⟨rfl, HB1.out⟩
    · by_cases c2 : (300 : Int) < (key.size : Int)
      · clear HKA
        go_enter Try.func3, Try.ntmps3
        go_wp2_with fail
        refine (known_any _).mono ?_
        rintro e w1 ⟨rfl, hb1⟩
        have HB1 := Lib.hid (HW.out.trans (hb1.mono HW.out.size))
        clear hb1
        go_wp2
        go_ret
        exact ⟨rfl, HB1.out⟩
      · have hn : Hid (kinds.length ≤ 1000000) := Lib.hid (by omega)
        go_enter Try.func3, Try.ntmps3
        go_wp2
        generalize (w.alloc (.cells #[.string p, .slice kA kinds.length kc, .int .i64 room, .bool oldest] 24)).alloc (.cells #[.int .i64 kd, .string key, .slice A val.length c, .int .u64 birth, .int .u64 due, .int .u64 at_] 30) = W0 at *
        have HS := Lib.hid (show W0.drew.cell? ⟨w.heap.size, 0, none⟩ = some (.string p) ∧ W0.drew.cell? ⟨w.heap.size, 1, none⟩ = some (.slice kA kinds.length kc) ∧ W0.drew.cell? ⟨w.heap.size, 2, none⟩ = some (.int .i64 room) ∧ W0.drew.cell? ⟨w.heap.size, 3, none⟩ = some (.bool oldest) ∧ W0.drew.cell? ⟨w.heap.size + 1, 0, none⟩ = some (.int .i64 kd) ∧ W0.drew.cell? ⟨w.heap.size + 1, 1, none⟩ = some (.string key) ∧ W0.drew.cell? ⟨w.heap.size + 1, 2, none⟩ = some (.slice A val.length c) ∧ W0.drew.cell? ⟨w.heap.size + 1, 3, none⟩ = some (.int .u64 birth) ∧ W0.drew.cell? ⟨w.heap.size + 1, 4, none⟩ = some (.int .u64 due) ∧ W0.drew.cell? ⟨w.heap.size + 1, 5, none⟩ = some (.int .u64 at_) from ⟨HK0.out.drew.cell 0, HK0.out.drew.cell 1, HK0.out.drew.cell 2, HK0.out.drew.cell 3, HK1.out.drew.cell 0, HK1.out.drew.cell 1, HK1.out.drew.cell 2, HK1.out.drew.cell 3, HK1.out.drew.cell 4, HK1.out.drew.cell 5⟩)
        have HKEEP : Hid (∀ wz wz2 : World, ((fun wz : World => wz.cell? ⟨w.heap.size, 0, none⟩ = some (.string p) ∧ wz.cell? ⟨w.heap.size, 1, none⟩ = some (.slice kA kinds.length kc) ∧ wz.cell? ⟨w.heap.size, 2, none⟩ = some (.int .i64 room) ∧ wz.cell? ⟨w.heap.size, 3, none⟩ = some (.bool oldest) ∧ wz.cell? ⟨w.heap.size + 1, 0, none⟩ = some (.int .i64 kd) ∧ wz.cell? ⟨w.heap.size + 1, 1, none⟩ = some (.string key) ∧ wz.cell? ⟨w.heap.size + 1, 2, none⟩ = some (.slice A val.length c) ∧ wz.cell? ⟨w.heap.size + 1, 3, none⟩ = some (.int .u64 birth) ∧ wz.cell? ⟨w.heap.size + 1, 4, none⟩ = some (.int .u64 due) ∧ wz.cell? ⟨w.heap.size + 1, 5, none⟩ = some (.int .u64 at_)) wz) → Below wz.heap.size wz wz2 → ((fun wz : World => wz.cell? ⟨w.heap.size, 0, none⟩ = some (.string p) ∧ wz.cell? ⟨w.heap.size, 1, none⟩ = some (.slice kA kinds.length kc) ∧ wz.cell? ⟨w.heap.size, 2, none⟩ = some (.int .i64 room) ∧ wz.cell? ⟨w.heap.size, 3, none⟩ = some (.bool oldest) ∧ wz.cell? ⟨w.heap.size + 1, 0, none⟩ = some (.int .i64 kd) ∧ wz.cell? ⟨w.heap.size + 1, 1, none⟩ = some (.string key) ∧ wz.cell? ⟨w.heap.size + 1, 2, none⟩ = some (.slice A val.length c) ∧ wz.cell? ⟨w.heap.size + 1, 3, none⟩ = some (.int .u64 birth) ∧ wz.cell? ⟨w.heap.size + 1, 4, none⟩ = some (.int .u64 due) ∧ wz.cell? ⟨w.heap.size + 1, 5, none⟩ = some (.int .u64 at_)) wz2)) := Lib.hid fun wz wz2 hq hb2 => by
          obtain ⟨x0, x1, x2, x3, y0, y1, y2, y3, y4, y5⟩ := hq
          exact ⟨cell_later hb2 x0, cell_later hb2 x1, cell_later hb2 x2, cell_later hb2 x3, cell_later hb2 y0, cell_later hb2 y1, cell_later hb2 y2, cell_later hb2 y3, cell_later hb2 y4, cell_later hb2 y5⟩
        have HF1 := Lib.hid (fits_any ⟨p, kinds, room, oldest, kA, kc⟩ ⟨⟨kd, key, val, birth, due, at_⟩, A, c⟩ W0.drew HKA.out hn.out)
        have HF2 := Lib.hid (fun (wz : World) (hz : KindsAt wz ⟨p, kinds, room, oldest, kA, kc⟩) => lawFits_any ⟨p, kinds, room, oldest, kA, kc⟩ ⟨⟨kd, key, val, birth, due, at_⟩, A, c⟩ wz hz hn.out)
        generalize Ri.fits ⟨p, kinds, room, oldest, kA, kc⟩ (⟨kd, key, val, birth, due, at_⟩ : Ev) = res at *
        simp only [Ri.v, Hv.v] at HF1 HF2
        refine wp_region_noPanic ?_
        refine wp_region_held_drew (S := fun wz => wz.cell? ⟨w.heap.size, 0, none⟩ = some (.string p) ∧ wz.cell? ⟨w.heap.size, 1, none⟩ = some (.slice kA kinds.length kc) ∧ wz.cell? ⟨w.heap.size, 2, none⟩ = some (.int .i64 room) ∧ wz.cell? ⟨w.heap.size, 3, none⟩ = some (.bool oldest) ∧ wz.cell? ⟨w.heap.size + 1, 0, none⟩ = some (.int .i64 kd) ∧ wz.cell? ⟨w.heap.size + 1, 1, none⟩ = some (.string key) ∧ wz.cell? ⟨w.heap.size + 1, 2, none⟩ = some (.slice A val.length c) ∧ wz.cell? ⟨w.heap.size + 1, 3, none⟩ = some (.int .u64 birth) ∧ wz.cell? ⟨w.heap.size + 1, 4, none⟩ = some (.int .u64 due) ∧ wz.cell? ⟨w.heap.size + 1, 5, none⟩ = some (.int .u64 at_)) (by kernel_rfl) HS.out (fun hHeld => ?_)
        refine wpAnyH_take (i := 0) (oi := { dst := some 22, op := Op.load 24 (Operand.tmp 2), type := 24, pos := "law.go:268", after := #[], guard := none }) (v := ?_) rfl (by kernel_rfl) (by kernel_rfl) (by kernel_rfl) (fun _ _ _ h => h) (Or.inl ⟨by rfl, ?_⟩) hHeld ?_
        rotate_left 1
        · intro wz hSw
          try dsimp only at hSw
          go_simp
          try with_reducible rfl
        try simp only [Act.put, List.setIfInBounds_toArray, List.set_cons_zero, List.set_cons_succ]
        refine wpAnyH_take (i := 1) (oi := { dst := some 23, op := Op.load 30 (Operand.tmp 3), type := 30, pos := "law.go:268", after := #[], guard := none }) (v := ?_) rfl (by kernel_rfl) (by kernel_rfl) (by kernel_rfl) (fun _ _ _ h => h) (Or.inl ⟨by rfl, ?_⟩) hHeld ?_
        rotate_left 1
        · intro wz hSw
          try dsimp only at hSw
          go_simp
          try with_reducible rfl
        try simp only [Act.put, List.setIfInBounds_toArray, List.set_cons_zero, List.set_cons_succ]
        refine wpAnyH_take (i := 3) (oi := { dst := some 25, op := Op.load 24 (Operand.tmp 2), type := 24, pos := "law.go:268", after := #[], guard := none }) (v := ?_) rfl (by kernel_rfl) (by kernel_rfl) (by kernel_rfl) (fun _ _ _ h => h) (Or.inl ⟨by rfl, ?_⟩) hHeld ?_
        rotate_left 1
        · intro wz hSw
          try dsimp only at hSw
          go_simp
          try with_reducible rfl
        try simp only [Act.put, List.setIfInBounds_toArray, List.set_cons_zero, List.set_cons_succ]
        refine wpAnyH_take (i := 4) (oi := { dst := some 26, op := Op.load 30 (Operand.tmp 3), type := 30, pos := "law.go:268", after := #[], guard := none }) (v := ?_) rfl (by kernel_rfl) (by kernel_rfl) (by kernel_rfl) (fun _ _ _ h => h) (Or.inl ⟨by rfl, ?_⟩) hHeld ?_
        rotate_left 1
        · intro wz hSw
          try dsimp only at hSw
          go_simp
          try with_reducible rfl
        try simp only [Act.put, List.setIfInBounds_toArray, List.set_cons_zero, List.set_cons_succ]
        refine wpAnyH_ready (rs := [2]) (by kernel_rfl) (by simp) ?_
        refine AllReadyH.cons (o := { dst := some 24, op := Op.call { callee := Callee.value (Operand.func 9), args := #[Operand.tmp 22, Operand.tmp 23], argTypes := #[24, 30] }, type := 4, pos := "law.go:268", after := #[{ on := 0, ground := Ground.data }, { on := 1, ground := Ground.data }], guard := none }) rfl (fun K hK => ?_) AllReadyH.nil
        go_simp
        refine (HF1.out).mono ?_
        rintro e w3 ⟨rfl, hb3⟩
        have HHB3 := Lib.hid hb3
        clear hb3
        refine hK.out _ _ (HKEEP.out _ _ hHeld HHB3.out) (fun hHeld => ?_)
        clear hK K
        try simp only [Act.put, List.setIfInBounds_toArray, List.set_cons_zero, List.set_cons_succ]
        refine wpAnyH_ready (rs := [5]) (by kernel_rfl) (by simp) ?_
        refine AllReadyH.cons (o := { dst := some 27, op := Op.call { callee := Callee.value (Operand.func 10), args := #[Operand.tmp 25, Operand.tmp 26], argTypes := #[24, 30] }, type := 4, pos := "law.go:268", after := #[{ on := 3, ground := Ground.data }, { on := 4, ground := Ground.data }, { on := 2, ground := Ground.chain }], guard := none }) rfl (fun K hK => ?_) AllReadyH.nil
        go_simp
        refine (HF2.out _ (HKA.out.below ((Below.refl _ W0).drew.trans HHB3.out))).mono ?_
        rintro e w4 ⟨rfl, hb4⟩
        have HHB4 := Lib.hid hb4
        clear hb4
        refine hK.out _ _ (HKEEP.out _ _ hHeld HHB4.out) (fun hHeld => ?_)
        clear hK K
        try simp only [Act.put, List.setIfInBounds_toArray, List.set_cons_zero, List.set_cons_succ]
        refine wpAnyH_take (i := 6) (oi := { dst := some 28, op := Op.binOp BinOp.eql 4 (Operand.tmp 24) (Operand.tmp 27) 4, type := 4, pos := "law.go:268", after := #[{ on := 2, ground := Ground.data }, { on := 5, ground := Ground.data }], guard := none }) (v := ?_) rfl (by kernel_rfl) (by kernel_rfl) (by kernel_rfl) (fun _ _ _ h => h) (Or.inl ⟨by rfl, ?_⟩) hHeld ?_
        rotate_left 1
        · intro wz hSw
          try dsimp only at hSw
          go_simp
          try with_reducible rfl
        try simp only [Act.put, List.setIfInBounds_toArray, List.set_cons_zero, List.set_cons_succ]
        refine wpAnyH_take (i := 7) (oi := { dst := some 29, op := Op.move (Operand.tmp 28), type := 4, pos := "law.go:268", after := #[{ on := 6, ground := Ground.data }, { on := 5, ground := Ground.chain }], guard := none }) (v := ?_) rfl (by kernel_rfl) (by kernel_rfl) (by kernel_rfl) (fun _ _ _ h => h) (Or.inl ⟨by rfl, ?_⟩) hHeld ?_
        rotate_left 1
        · intro wz hSw
          try dsimp only at hSw
          go_simp
          try with_reducible rfl
        try simp only [Act.put, List.setIfInBounds_toArray, List.set_cons_zero, List.set_cons_succ]
        refine wpAnyH_ready (rs := [8]) (by kernel_rfl) (by simp) ?_
        refine AllReadyH.cons (o := { dst := some 30, op := Op.call { callee := Callee.value (Operand.func 8), args := #[], argTypes := #[] }, type := 4, pos := "law.go:268", after := #[{ on := 7, ground := Ground.chain }, { on := 7, ground := Ground.guard }], guard := some (7, true) }) rfl (fun K hK => ?_) AllReadyH.nil
        go_simp
        refine (known_any _).mono ?_
        rintro e w5 ⟨rfl, hb5⟩
        have HHB5 := Lib.hid hb5
        clear hb5
        refine hK.out _ _ (HKEEP.out _ _ hHeld HHB5.out) (fun hHeld => ?_)
        clear hK K
        try simp only [Act.put, List.setIfInBounds_toArray, List.set_cons_zero, List.set_cons_succ]
        refine wpAnyH_take (i := 9) (oi := { dst := some 31, op := Op.pick (Operand.tmp 29) (Operand.tmp 30) (Operand.const (Value.bool false)), type := 4, pos := "law.go:268", after := #[{ on := 7, ground := Ground.data }, { on := 8, ground := Ground.data }], guard := none }) (v := ?_) rfl (by kernel_rfl) (by kernel_rfl) (by kernel_rfl) (fun _ _ _ h => h) (Or.inl ⟨by rfl, ?_⟩) hHeld ?_
        rotate_left 1
        · intro wz hSw
          try dsimp only at hSw
          go_simp
          try with_reducible rfl
        try simp only [Act.put, List.setIfInBounds_toArray, List.set_cons_zero, List.set_cons_succ]
        refine wpAnyH_ready (rs := [10]) (by kernel_rfl) (by simp) ?_
        refine AllReadyH.cons (o := { dst := some 4, op := Op.assign (Operand.tmp 31), type := 4, pos := "law.go:268", after := #[{ on := 9, ground := Ground.data }, { on := 8, ground := Ground.chain }, { on := 0, ground := Ground.phase }, { on := 1, ground := Ground.phase }, { on := 2, ground := Ground.phase }, { on := 3, ground := Ground.phase }, { on := 4, ground := Ground.phase }, { on := 5, ground := Ground.phase }, { on := 6, ground := Ground.phase }, { on := 7, ground := Ground.phase }, { on := 8, ground := Ground.phase }, { on := 9, ground := Ground.phase }], guard := none }) rfl (fun K hK => ?_) AllReadyH.nil
        go_simp
        refine hK.out _ _ (hHeld) (fun hHeld => ?_)
        clear hK K
        try simp only [Act.put, List.setIfInBounds_toArray, List.set_cons_zero, List.set_cons_succ]
        refine wpAnyH_done (by kernel_rfl) ?_ _
        refine NoPanic.normal ?_
        go_wp2
        go_ret
        exact ⟨rfl, HW.out.trans (((Below.refl _ W0).drew.trans (HHB3.out.trans ((HHB4.out.mono HHB3.out.size).trans (HHB5.out.mono (Nat.le_trans HHB3.out.size HHB4.out.size))))).mono HW.out.size)⟩

set_option maxRecDepth 100000 in
theorem fits_lifted (os : Os) (started : os.Started) (H : Type) (enc : TypeId × Value → H) :
    ReturnsInHanded {} Try.checked os 3 .any (Rows.watchFitsSpec.pre6 enc Try.prog Try.f3 Rows.watchFitsRow.domain false) (Rows.watchFitsSpec.post enc Try.prog Try.f3 false true false false) := by
  refine returnsInHanded_of_change_sized (C := Try.checked) own started (by kernel_rfl) Try.func3
    (ChangeSpec.witness6 (enc := enc) (C := Try.checked) false ⟨#[], #[.agg #[.string ⟨#[]⟩, .slice none 0 0, .int .i64 0, .bool false], .agg #[.int .i64 0, .string ⟨#[]⟩, .slice none 0 0, .int .u64 0, .int .u64 0, .int .u64 0]], []⟩ 8 (by kernel_rfl) (by kernel_rfl) (by kernel_rfl) (by kernel_rfl)) ?_
  intro W base args ds gs before hval hW _ _ _
  have hval : ∀ (j : Nat) t v, Try.f3.params[j]? = some t → args[j]? = some v → Value.okWide Try.prog W .any base t v := hval
  have hW : DataW.Whole enc Try.prog Try.f3.params.toList Rows.watchFitsSpec.vars false W args.toList ds gs before := hW
  have hW0 := hW
  obtain ⟨p, q, hA, _, rfl, _, _⟩ := hW
  rw [Try.params3] at hA hval
  obtain ⟨v0, v1, d0, d1, p0, p1, rfl, rfl, rfl, h0, h1⟩ := trodAll_two hA
  obtain ⟨r, rfl, hr⟩ := in_rule (hval 0 24 v0 rfl rfl) h0
  obtain ⟨h, rfl, hh⟩ := in_event (hval 1 30 v1 rfl rfl) h1
  refine (fits_law r h W (Or.inr hr.kinds)).mono fun e W' ⟨he, hb⟩ => ?_
  subst he
  refine ⟨_, rfl, law_done rfl (by kernel_rfl) (by decide +kernel) (fun ds hl => ?_) hW0 hb⟩
  match ds, hl with
  | [_, _], _ => rfl

theorem fits_holds : Rows.WatchFitsSaid :=
  OpenClaim.holds_of_wide 3 Try.f3 rfl rfl rfl rfl rfl rfl rfl ⟨rfl, rfl, rfl, rfl, rfl⟩ rfl rfl rfl rfl rfl (by kernel_rfl) Try.func3 (by kernel_rfl)
    (of_decide_eq_true (by kernel_rfl)) (by unfold Func.isWrapper; first | (rw [if_pos (by decide +kernel)]; kernel_rfl) | (rw [if_neg (by decide +kernel)]; exact ⟨rfl, rfl⟩))
    (fun os started H enc _ => fits_lifted os started H enc)

#print axioms fits_holds
end Go.Proofs.Ytfimgkjdfjlkhaa
