/- BeladyBest: for every trace and every size the law answers true and the trace reads as before. No condition. -/
import Derived.Test.YthclmacnmbmepaaLb
namespace Go.Proofs.Ythclmacnmbmepaa
open Go.ChangeShapes Go.WideShapes Go.ChangeAt Go.RowKit Bel

set_option maxHeartbeats 2000000 in
theorem best_law (A : Option Addr) (n c : Nat) (s : Int) (tr : List Int) (w : World) (h : Reads w w.heap.size 1 A n (ints .u32 tr)) (hw : ∀ x ∈ tr, (Lit.int .u32 x).wf = true) (hn : n ≤ maxLen) :
    Calls Try.prog 6 #[.slice A n c, .int .i64 s] w fun e w' => e = .returned (.bool true) ∧ Below w.heap.size w w' := by
  unfold maxLen at hn
  by_cases hb : 14 < n
  · have hb' : (14 : Int) < (n : Int) := by omega
    have he : allowedE n 14 s = 5 := by unfold allowedE; rw [if_pos (by omega)]
    have HE := Lib.hid he
    clear he
    have HH := Lib.hid h
    have HW := Lib.hid hw
    clear h hw
    go_enter Try.func6, Try.ntmps6
    go_wp2_with fail
    refine (bestP_err A n c s 5 w HE.out (by omega)).mono ?_
    rintro e w1 ⟨rfl, hb1⟩
    have HB1 := Lib.hid hb1
    clear hb1
    go_wp2_with fail
    refine (known_any _).mono ?_
    rintro e w2 ⟨rfl, hb2⟩
    have HB2 := Lib.hid (HB1.out.trans (hb2.mono HB1.out.size))
    clear hb2
    go_wp2
    go_ret
    exact ⟨rfl, HB2.out⟩
  · have hb' : ¬ ((14 : Int) < (n : Int)) := by omega
    by_cases hs : 1 ≤ s ∧ s ≤ 1024
    · obtain ⟨z, rfl⟩ : ∃ z : Nat, s = z := ⟨s.toNat, by omega⟩
      have hs1 : 1 ≤ z := by omega
      have hs2 : z ≤ 1024 := by omega
      have HS := Lib.hid hs
      clear hs
      by_cases h9 : 9 < n
      · have h9' : (9 : Int) < (n : Int) := by omega
        by_cases h2 : 2 < z
        · have h2' : (2 : Int) < (z : Int) := by omega
          have HH := Lib.hid h
          have HW := Lib.hid hw
          clear h hw
          go_enter Try.func6, Try.ntmps6
          go_wp2_with fail
          refine (bestP_any A n c z tr w HH.out HW.out (by omega) hs1 hs2).mono ?_
          rintro e w1 ⟨rfl, hb1⟩
          have HB1 := Lib.hid hb1
          clear hb1
          go_wp2_with fail
          refine (size_yes _ HS.out.1 HS.out.2 _).mono ?_
          rintro e w' ⟨rfl, rfl⟩
          go_wp2_with fail
          refine (known_any _).mono ?_
          rintro e w2 ⟨rfl, hb2⟩
          have HB2 := Lib.hid (HB1.out.trans (hb2.mono HB1.out.size))
          clear hb2
          go_wp2
          go_ret
          exact ⟨rfl, HB2.out⟩
        · have h2' : ¬ ((2 : Int) < (z : Int)) := by omega
          have HH := Lib.hid h
          have HW := Lib.hid hw
          clear h hw
          go_enter Try.func6, Try.ntmps6
          go_wp2_with fail
          refine (bestP_any A n c z tr w HH.out HW.out (by omega) hs1 hs2).mono ?_
          rintro e w1 ⟨rfl, hb1⟩
          have HB1 := Lib.hid hb1
          clear hb1
          go_wp2_with fail
          refine (size_yes _ HS.out.1 HS.out.2 _).mono ?_
          rintro e w' ⟨rfl, rfl⟩
          go_wp2_with fail
          refine (rbest_any z n c tr A w1 hs1 hs2 (by omega) ((HH.out.below HB1.out).more HB1.out.size)).mono ?_
          rintro e w2 ⟨rfl, hb2⟩
          have HB2 := Lib.hid (HB1.out.trans (hb2.mono HB1.out.size))
          clear hb2
          go_wp2_with fail
          refine (gives_yes _ w2).mono ?_
          rintro e w' ⟨rfl, rfl⟩
          go_wp2_with fail
          refine (known_any _).mono ?_
          rintro e w3 ⟨rfl, hb3⟩
          have HB3 := Lib.hid (HB2.out.trans (hb3.mono HB2.out.size))
          clear hb3
          go_wp2
          go_ret
          exact ⟨rfl, HB3.out⟩
      · have h9' : ¬ ((9 : Int) < (n : Int)) := by omega
        have HH := Lib.hid h
        have HW := Lib.hid hw
        clear h hw
        go_enter Try.func6, Try.ntmps6
        go_wp2_with fail
        refine (bestP_any A n c z tr w HH.out HW.out (by omega) hs1 hs2).mono ?_
        rintro e w1 ⟨rfl, hb1⟩
        have HB1 := Lib.hid hb1
        clear hb1
        go_wp2_with fail
        refine (size_yes _ HS.out.1 HS.out.2 _).mono ?_
        rintro e w' ⟨rfl, rfl⟩
        go_wp2_with fail
        refine (rbest_any z n c tr A w1 hs1 hs2 (by omega) ((HH.out.below HB1.out).more HB1.out.size)).mono ?_
        rintro e w2 ⟨rfl, hb2⟩
        have HB2 := Lib.hid (HB1.out.trans (hb2.mono HB1.out.size))
        clear hb2
        go_wp2_with fail
        refine (gives_yes _ w2).mono ?_
        rintro e w' ⟨rfl, rfl⟩
        go_wp2_with fail
        refine (known_any _).mono ?_
        rintro e w3 ⟨rfl, hb3⟩
        have HB3 := Lib.hid (HB2.out.trans (hb3.mono HB2.out.size))
        clear hb3
        go_wp2
        go_ret
        exact ⟨rfl, HB3.out⟩
    · have he : allowedE n 14 s = 2 := by unfold allowedE; rw [if_neg (by omega), if_pos (by omega)]
      have HE := Lib.hid he
      have HS := Lib.hid hs
      clear hs he
      have HH := Lib.hid h
      have HW := Lib.hid hw
      clear h hw
      go_enter Try.func6, Try.ntmps6
      go_wp2_with fail
      refine (bestP_err A n c s 2 w HE.out (by omega)).mono ?_
      rintro e w1 ⟨rfl, hb1⟩
      have HB1 := Lib.hid hb1
      clear hb1
      go_wp2_with fail
      refine (size_no _ HS.out _).mono ?_
      rintro e w' ⟨rfl, rfl⟩
      go_wp2_with fail
      refine (known_any _).mono ?_
      rintro e w2 ⟨rfl, hb2⟩
      have HB2 := Lib.hid (HB1.out.trans (hb2.mono HB1.out.size))
      clear hb2
      go_wp2
      go_ret
      exact ⟨rfl, HB2.out⟩

theorem best_lifted (os : Os) (started : os.Started) (H : Type) (enc : TypeId × Value → H) :
    ReturnsInHanded {} Try.checked os 6 .any (Rows.beladyBestSpec.pre6 enc Try.prog Try.f6 Rows.beladyBestRow.domain false) (Rows.beladyBestSpec.post enc Try.prog Try.f6 false true false false) := by
  refine returnsInHanded_of_change_sized (C := Try.checked) own started (by kernel_rfl) Try.func6
    (ChangeSpec.witness6 (enc := enc) (C := Try.checked) false ⟨#[], #[.slice none 0 0, .int .i64 0], []⟩ 8 (by kernel_rfl) (by kernel_rfl) (by kernel_rfl) (by kernel_rfl)) ?_
  intro W base args ds gs before hval hW _ _ _
  have hval : ∀ (j : Nat) t v, Try.f6.params[j]? = some t → args[j]? = some v → Value.okWide Try.prog W .any base t v := hval
  have hW : DataW.Whole enc Try.prog Try.f6.params.toList Rows.beladyBestSpec.vars false W args.toList ds gs before := hW
  have hW0 := hW
  obtain ⟨p, q, hA, _, rfl, _, _⟩ := hW
  rw [Try.params6] at hA hval
  obtain ⟨v0, vs0, d0, ds0, p0, q0, hargs0, rfl, rfl, h0, r0⟩ := trodAll_cons hA
  obtain ⟨v1, vs1, d1, ds1, p1, q1, hargs1, rfl, rfl, h1, r1⟩ := trodAll_cons r0
  subst hargs1
  obtain ⟨rfl, rfl, rfl⟩ := trodAll_nil r1
  obtain rfl : args = #[v0, v1] := by cases args; simp_all
  clear hargs0
  obtain ⟨A, n, c, tr, rfl, hr, hwf, hn⟩ := read_u32 (hval 0 22 v0 rfl rfl) h0
  obtain ⟨s, rfl, rfl, rfl, _⟩ := open_int Try.underlying3 (hval 1 3 v1 rfl rfl) h1
  refine (best_law A n c s tr W hr hwf hn).mono fun e W' ⟨he, hb⟩ => ?_
  subst he
  refine ⟨_, rfl, law_done rfl (by kernel_rfl) (by decide +kernel) (fun ds hl => ?_) hW0 hb⟩
  match ds, hl with
  | [_, _], _ => rfl

theorem best_holds : Rows.BeladyBestSaid :=
  OpenClaim.holds_of_wide 6 Try.f6 rfl rfl rfl rfl rfl rfl rfl ⟨rfl, rfl, rfl, rfl, rfl⟩ rfl rfl rfl rfl rfl (by kernel_rfl) Try.func6 (by kernel_rfl)
    (of_decide_eq_true (by kernel_rfl)) (by unfold Func.isWrapper; first | (rw [if_pos (by decide +kernel)]; kernel_rfl) | (rw [if_neg (by decide +kernel)]; exact ⟨rfl, rfl⟩))
    (fun os started H enc _ => best_lifted os started H enc)

#print axioms best_holds
end Go.Proofs.Ythclmacnmbmepaa
