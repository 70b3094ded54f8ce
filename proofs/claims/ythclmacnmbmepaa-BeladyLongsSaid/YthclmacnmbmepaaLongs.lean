/- BeladyLongs: for all numbers the law answers true. No condition. -/
import Derived.Test.YthclmacnmbmepaaLc
namespace Go.Proofs.Ythclmacnmbmepaa
open Go.ChangeShapes Go.WideShapes Go.ChangeAt Go.RowKit Bel

set_option maxHeartbeats 2000000 in
theorem longs_out (many keys size : Int) (w : World) (h : many < 4094 ∨ 4098 < many ∨ keys < 1 ∨ 8 < keys ∨ size < 1 ∨ 8 < size) :
    Calls Try.prog 7 #[.int .i64 many, .int .i64 keys, .int .i64 size] w fun e w' => e = .returned (.bool true) ∧ Below w.heap.size w w' := by
  by_cases c0 : many < 4094
  · clear h
    go_enter Try.func7, Try.ntmps7
    go_wp2_with fail
    refine (known_any _).mono ?_
    rintro e w1 ⟨rfl, hb1⟩
    have HB1 := Lib.hid hb1
    clear hb1
    go_wp2
    go_ret
    exact ⟨rfl, HB1.out⟩
  · skip
    by_cases c1 : 4098 < many
    · clear h
      go_enter Try.func7, Try.ntmps7
      go_wp2_with fail
      refine (known_any _).mono ?_
      rintro e w1 ⟨rfl, hb1⟩
      have HB1 := Lib.hid hb1
      clear hb1
      go_wp2
      go_ret
      exact ⟨rfl, HB1.out⟩
    · skip
      by_cases c2 : keys < 1
      · clear h
        go_enter Try.func7, Try.ntmps7
        go_wp2_with fail
        refine (known_any _).mono ?_
        rintro e w1 ⟨rfl, hb1⟩
        have HB1 := Lib.hid hb1
        clear hb1
        go_wp2
        go_ret
        exact ⟨rfl, HB1.out⟩
      · skip
        by_cases c3 : 8 < keys
        · clear h
          go_enter Try.func7, Try.ntmps7
          go_wp2_with fail
          refine (known_any _).mono ?_
          rintro e w1 ⟨rfl, hb1⟩
          have HB1 := Lib.hid hb1
          clear hb1
          go_wp2
          go_ret
          exact ⟨rfl, HB1.out⟩
        · skip
          by_cases c4 : size < 1
          · clear h
            go_enter Try.func7, Try.ntmps7
            go_wp2_with fail
            refine (known_any _).mono ?_
            rintro e w1 ⟨rfl, hb1⟩
            have HB1 := Lib.hid hb1
            clear hb1
            go_wp2
            go_ret
            exact ⟨rfl, HB1.out⟩
          · skip
            by_cases c5 : 8 < size
            · clear h
              go_enter Try.func7, Try.ntmps7
              go_wp2_with fail
              refine (known_any _).mono ?_
              rintro e w1 ⟨rfl, hb1⟩
              have HB1 := Lib.hid hb1
              clear hb1
              go_wp2
              go_ret
              exact ⟨rfl, HB1.out⟩
            · skip
              omega

/-- The trace as it is laid out. -/
def LT (w wr : World) (n q k : Nat) : Prop := Below w.heap.size w wr ∧ Blk wr w.heap.size 45 (ints .u32 (loopT q n k)).toArray
theorem made_u32 (n : Nat) : madeCells #[Value.int .u32 0] n = (ints .u32 (List.replicate n 0)).toArray := by
  apply Array.toList_inj.1
  rw [toList_madeCells_one]
  simp [ints]
theorem LT.start (w : World) (n q : Nat) : LT w (w.alloc (.cells (ints .u32 (List.replicate n 0)).toArray 45)) n q 0 := by
  refine ⟨(Below.refl _ _).alloc (Nat.le_refl _) _, ?_⟩
  rw [loopT_zero]
  exact Blk.new w 45 _
theorem LT.step {w wr : World} {n q k : Nat} (h : LT w wr n q k) : LT w (wr.setCell ⟨w.heap.size, k, none⟩ (.int .u32 ((k % q : Nat) : Int))) n q (k + 1) := by
  refine ⟨h.1.setCell (Nat.le_refl _) _, ?_⟩
  have := h.2.set_ k (.int .u32 ((k % q : Nat) : Int))
  rwa [ints_set, loopT_set] at this

theorem rem_wrap {k q : Nat} (hq : 0 < q) (hq8 : q ≤ 8) : IntKind.u32.wrap (((k : Int) % (q : Int))) = ((k % q : Nat) : Int) := by
  have h1 := Nat.mod_lt k hq
  have h2 : ((k : Int) % (q : Int)) = ((k % q : Nat) : Int) := by push_cast; rfl
  rw [h2, IntKind.wrap_u32]
  omega

set_option maxRecDepth 100000 in
set_option maxHeartbeats 2000000 in
theorem longs_in (n q s : Nat) (w : World) (h1 : 4094 ≤ n) (h2 : n ≤ 4098) (h3 : 1 ≤ q) (h4 : q ≤ 8) (h5 : 1 ≤ s) (h6 : s ≤ 8) :
    Calls Try.prog 7 #[.int .i64 n, .int .i64 q, .int .i64 s] w fun e w' => e = .returned (.bool true) ∧ Below w.heap.size w w' := by
  have c0 : ¬ (n : Int) < 4094 := by omega
  have c1 : ¬ (4098 : Int) < (n : Int) := by omega
  have c2 : ¬ (q : Int) < 1 := by omega
  have c3 : ¬ (8 : Int) < (q : Int) := by omega
  have c4 : ¬ (s : Int) < 1 := by omega
  have c5 : ¬ (8 : Int) < (s : Int) := by omega
  obtain ⟨i0, hi, he⟩ := Option.map_eq_some_iff.1 info45
  simp only [Prod.mk.injEq] at he
  obtain ⟨hz0, hz1, hz2⟩ := he
  have hmk : (Instr.makeSlice 22 (.int .i64 (n : Int)) (.int .i64 (n : Int))).run Try.prog w = .ok (.slice (some ⟨w.heap.size, 0, none⟩) n n) (w.alloc (.cells (ints .u32 (List.replicate n 0)).toArray 45)) := by
    have := run_make_rowN (P := Try.prog) 22 45 i0 _ Try.underlying22 hi hz0 .i64 .i64 n n (Nat.le_refl _) (by rw [hz2]; omega) (by omega) w
    rw [hz1, Nat.mul_one] at this
    rw [this, show (Value.int .u32 0).cells = #[Value.int .u32 0] from rfl, made_u32]
  clear hi hz0 hz1 hz2
  go_enter Try.func7, Try.ntmps7
  go_wp2
  go_loopw [8] (fun x wr => ∃ k : Nat, k ≤ n ∧ x = .int .i64 k ∧ LT w wr n q k) (fun x _ => n - (intOf x).toNat)
  case atStart => exact ⟨0, Nat.zero_le _, rfl, LT.start w n q⟩
  case round =>
    obtain ⟨k, hk, rfl, hl⟩ := hrel
    have HL := Lib.hid hl
    by_cases hlt : k < n
    · have hk0 : (0 : Int) ≤ (k : Int) := Int.natCast_nonneg _
      have hk1 : (k : Int) < (n : Int) := by omega
      have hcell := hl.2.cell k
      have hfr := hl.2.frozen k
      rw [ints_at (by rw [loopT_len]; exact hlt)] at hcell
      have hrem := rem_wrap (k := k) (q := q) (by omega) h4
      have hq0 : ¬ (q : Int) = 0 := by omega
      have hq1 : (0 : Int) < (q : Int) := by omega
      clear hl
      go_wp2
      all_goals
        go_roundw
        case rel => exact ⟨k + 1, by omega, by go_num, HL.out.step⟩
        case measure => simp [intOf]; omega
    · have hkn : k = n := by omega
      subst hkn
      have hnl : ¬ ((k : Int) < (k : Int)) := by omega
      have HR := Lib.hid (hl.2.reads (n := k) (size := 1) (by simp [ints, loopT_len]))
      have HW := Lib.hid (loopT_wf (q := q) (n := k) (k := k) (by omega) h4)
      have HB := Lib.hid hl.1
      clear hl hlt hmk
      by_cases hlong : 4096 < k
      · have hlong' : (4096 : Int) < (k : Int) := by omega
        have he : allowedE k 4096 s = 5 := by unfold allowedE; rw [if_pos (by omega)]
        have HE := Lib.hid he
        clear he
        go_wp2_with fail
        refine (next_long _ k k _ hlong).mono ?_
        rintro e w1 ⟨rfl, hb1⟩
        have HB1 := Lib.hid (HB.out.trans (hb1.mono HB.out.size))
        clear hb1
        go_wp2_with fail
        refine (turnsP_err _ k k s 5 _ HE.out (by omega)).mono ?_
        rintro e w' ⟨rfl, rfl⟩
        go_wp2_with fail
        refine (hitsP_err _ k k s 5 _ HE.out (by omega)).mono ?_
        rintro e w2 ⟨rfl, hb2⟩
        have HB2 := Lib.hid (HB1.out.trans (hb2.mono HB1.out.size))
        clear hb2
        go_wp2_with fail
        refine (checkP_err _ none k k 0 0 s 5 _ HE.out (by omega)).mono ?_
        rintro e w' ⟨rfl, rfl⟩
        go_wp2_with fail
        refine (known_any _).mono ?_
        rintro e w3 ⟨rfl, hb3⟩
        have HB3 := Lib.hid (HB2.out.trans (hb3.mono HB2.out.size))
        clear hb3
        go_wp2
        go_ret
        exact ⟨rfl, HB3.out⟩
      · have hlong' : ¬ (4096 : Int) < (k : Int) := by omega
        have hD := loop_hits (q := q) (n := k) (s := s) (by omega) (by omega)
        go_wp2_with fail
        refine (nextP_any _ k k _ wr HR.out HW.out (by omega)).mono ?_
        rintro e w1 ⟨v, rfl, ho1, hb1⟩
        obtain ⟨A1, cc1, rfl, hr1⟩ := own_slice ho1
        have HB1 := Lib.hid (HB.out.trans (hb1.mono HB.out.size))
        have HR1 := Lib.hid ((HR.out.below hb1).more hb1.size)
        clear ho1 hb1 hr1
        go_wp2_with fail
        refine (turnsP_any _ k k s _ w1 HR1.out HW.out (by omega) h5 (by omega)).mono ?_
        rintro e w2 ⟨g, rfl, hg, hk2, hb2⟩
        have HK2 := Lib.hid (hk2.reads (n := k) (size := 3) (turns_len HR.out))
        have HB2 := Lib.hid (HB1.out.trans (hb2.mono HB1.out.size))
        have HR2 := Lib.hid ((HR1.out.below hb2).more hb2.size)
        clear hk2 hb2 hg
        go_wp2_with fail
        refine (hitsP_any _ k k s _ w2 HR2.out HW.out (by omega) h5 (by omega)).mono ?_
        rintro e w3 ⟨rfl, hb3⟩
        have HB3 := Lib.hid (HB2.out.trans (hb3.mono HB2.out.size))
        have HC := Lib.hid (checkP_any _ _ k k k s _ _ w3 ((HR2.out.below hb3).more hb3.size) ((HK2.out.below hb3).more hb3.size) HW.out (turns_wf h5 HW.out) (by omega) h5 (by omega))
        rw [(check_turns h5 _).1, (check_turns h5 _).2] at HC
        clear hb3
        go_wp2_with fail
        refine HC.out.mono ?_
        rintro e w4 ⟨rfl, hb4⟩
        have HB4 := Lib.hid (HB3.out.trans (hb4.mono HB3.out.size))
        clear hb4
        by_cases hqs : q ≤ s
        · have hqs' : (q : Int) ≤ (s : Int) := by omega
          rw [hD hqs]
          have hsub : ((k - q : Nat) : Int) = (k : Int) - (q : Int) := by omega
          rw [hsub]
          clear hD hsub
          go_wp2_with fail
          refine (known_any _).mono ?_
          rintro e w5 ⟨rfl, hb5⟩
          have HB5 := Lib.hid (HB4.out.trans (hb5.mono HB4.out.size))
          clear hb5
          go_wp2
          go_ret
          exact ⟨rfl, HB5.out⟩
        · have hqs' : ¬ (q : Int) ≤ (s : Int) := by omega
          clear hD
          go_wp2_with fail
          refine (known_any _).mono ?_
          rintro e w5 ⟨rfl, hb5⟩
          have HB5 := Lib.hid (HB4.out.trans (hb5.mono HB4.out.size))
          clear hb5
          go_wp2
          go_ret
          exact ⟨rfl, HB5.out⟩

theorem longs_law (many keys size : Int) (w : World) :
    Calls Try.prog 7 #[.int .i64 many, .int .i64 keys, .int .i64 size] w fun e w' => e = .returned (.bool true) ∧ Below w.heap.size w w' := by
  by_cases h : many < 4094 ∨ 4098 < many ∨ keys < 1 ∨ 8 < keys ∨ size < 1 ∨ 8 < size
  · exact longs_out many keys size w h
  · obtain ⟨n, rfl⟩ : ∃ n : Nat, many = n := ⟨many.toNat, by omega⟩
    obtain ⟨q, rfl⟩ : ∃ n : Nat, keys = n := ⟨keys.toNat, by omega⟩
    obtain ⟨s, rfl⟩ : ∃ n : Nat, size = n := ⟨size.toNat, by omega⟩
    exact longs_in n q s w (by omega) (by omega) (by omega) (by omega) (by omega) (by omega)

theorem longs_lifted (os : Os) (started : os.Started) (H : Type) (enc : TypeId × Value → H) :
    ReturnsInHanded {} Try.checked os 7 .any (Rows.beladyLongsSpec.pre6 enc Try.prog Try.f7 Rows.beladyLongsRow.domain false) (Rows.beladyLongsSpec.post enc Try.prog Try.f7 false true false false) := by
  refine returnsInHanded_of_change_sized (C := Try.checked) own started (by kernel_rfl) Try.func7
    (ChangeSpec.witness6 (enc := enc) (C := Try.checked) false ⟨#[], #[.int .i64 0, .int .i64 0, .int .i64 0], []⟩ 8 (by kernel_rfl) (by kernel_rfl) (by kernel_rfl) (by kernel_rfl)) ?_
  intro W base args ds gs before hval hW _ _ _
  have hval : ∀ (j : Nat) t v, Try.f7.params[j]? = some t → args[j]? = some v → Value.okWide Try.prog W .any base t v := hval
  have hW : DataW.Whole enc Try.prog Try.f7.params.toList Rows.beladyLongsSpec.vars false W args.toList ds gs before := hW
  have hW0 := hW
  obtain ⟨p, q, hA, _, rfl, _, _⟩ := hW
  rw [Try.params7] at hA hval
  obtain ⟨v0, vs0, d0, ds0, p0, q0, hargs0, rfl, rfl, h0, r0⟩ := trodAll_cons hA
  obtain ⟨v1, vs1, d1, ds1, p1, q1, hargs1, rfl, rfl, h1, r1⟩ := trodAll_cons r0
  subst hargs1
  obtain ⟨v2, vs2, d2, ds2, p2, q2, hargs2, rfl, rfl, h2, r2⟩ := trodAll_cons r1
  subst hargs2
  obtain ⟨rfl, rfl, rfl⟩ := trodAll_nil r2
  obtain rfl : args = #[v0, v1, v2] := by cases args; simp_all
  clear hargs0
  obtain ⟨a, rfl, rfl, rfl, _⟩ := open_int Try.underlying3 (hval 0 3 v0 rfl rfl) h0
  obtain ⟨b, rfl, rfl, rfl, _⟩ := open_int Try.underlying3 (hval 1 3 v1 rfl rfl) h1
  obtain ⟨c, rfl, rfl, rfl, _⟩ := open_int Try.underlying3 (hval 2 3 v2 rfl rfl) h2
  refine (longs_law a b c W).mono fun e W' ⟨he, hb⟩ => ?_
  subst he
  refine ⟨_, rfl, law_done rfl (by kernel_rfl) (by decide +kernel) (fun ds hl => ?_) hW0 hb⟩
  match ds, hl with
  | [_, _, _], _ => rfl

theorem longs_holds : Rows.BeladyLongsSaid :=
  OpenClaim.holds_of_wide 7 Try.f7 rfl rfl rfl rfl rfl rfl rfl ⟨rfl, rfl, rfl, rfl, rfl⟩ rfl rfl rfl rfl rfl (by kernel_rfl) Try.func7 (by kernel_rfl)
    (of_decide_eq_true (by kernel_rfl)) (by unfold Func.isWrapper; first | (rw [if_pos (by decide +kernel)]; kernel_rfl) | (rw [if_neg (by decide +kernel)]; exact ⟨rfl, rfl⟩))
    (fun os started H enc _ => longs_lifted os started H enc)

#print axioms longs_holds
end Go.Proofs.Ythclmacnmbmepaa
