/- BeladyChecks: for every trace, every size and all turns the law answers true, and what came in reads as before. No condition. -/
import Derived.Test.YthclmacnmbmepaaLb
namespace Go.Proofs.Ythclmacnmbmepaa
open Go.ChangeShapes Go.WideShapes Go.ChangeAt Go.RowKit Bel

set_option maxHeartbeats 2000000 in
theorem checks_law (A D : Option Addr) (n c m d : Nat) (s : Int) (tr : List Int) (ts : List Turn) (w : World) (h : Reads w w.heap.size 1 A n (ints .u32 tr)) (hw : ∀ x ∈ tr, (Lit.int .u32 x).wf = true)
    (h' : Reads w w.heap.size 3 D m (tcells ts)) (hw' : ∀ x ∈ ts, (Lit.int .u32 x.out).wf = true) (hn : n ≤ maxLen) (hm : m ≤ maxLen) :
    Calls Try.prog 5 #[.slice A n c, .int .i64 s, .slice D m d] w fun e w' => e = .returned (.bool true) ∧ Below w.heap.size w w' := by
  unfold maxLen at hn hm
  by_cases hb : 200 < n
  · have hb' : (200 : Int) < (n : Int) := by omega
    have HH := Lib.hid h
    have HW := Lib.hid hw
    have HK := Lib.hid h'
    have HV := Lib.hid hw'
    clear h hw h' hw'
    go_enter Try.func5, Try.ntmps5
    go_wp2_with fail
    refine (known_any _).mono ?_
    rintro e w1 ⟨rfl, hb1⟩
    have HB1 := Lib.hid hb1
    clear hb1
    go_wp2
    go_ret
    exact ⟨rfl, HB1.out⟩
  · have hb' : ¬ ((200 : Int) < (n : Int)) := by omega
    by_cases hc : 200 < m
    · have hc' : (200 : Int) < (m : Int) := by omega
      have HH := Lib.hid h
      have HW := Lib.hid hw
      have HK := Lib.hid h'
      have HV := Lib.hid hw'
      clear h hw h' hw'
      go_enter Try.func5, Try.ntmps5
      go_wp2_with fail
      refine (known_any _).mono ?_
      rintro e w1 ⟨rfl, hb1⟩
      have HB1 := Lib.hid hb1
      clear hb1
      go_wp2
      go_ret
      exact ⟨rfl, HB1.out⟩
    · have hc' : ¬ ((200 : Int) < (m : Int)) := by omega
      by_cases hs : 1 ≤ s ∧ s ≤ 1024
      · obtain ⟨z, rfl⟩ : ∃ z : Nat, s = z := ⟨s.toNat, by omega⟩
        have hs1 : 1 ≤ z := by omega
        have hs2 : z ≤ 1024 := by omega
        have HS := Lib.hid hs
        have he : allowedE n 4096 z = 0 := by unfold allowedE; rw [if_neg (by omega), if_neg (by omega)]
        have HE := Lib.hid he
        clear hs he
        by_cases hnm : n = m
        · subst hnm
          have HP := Lib.hid (checkP_any A D n c d z tr ts w h h' hw hw' (by omega) hs1 hs2)
          have HC := Lib.hid (fun w1 (h1 : Below w.heap.size w w1) => rcheck_any A D n c d z tr ts w1 ((h.below h1).more h1.size) ((h'.below h1).more h1.size) (by omega) hs2)
          cases hk : chk z tr ts [] with
          | false =>
            have e1 : checkH z tr ts = 0 := by unfold checkH; rw [hk]; rfl
            have e2 : checkE z tr ts = 10 := by unfold checkE; rw [hk]; rfl
            rw [e1, e2] at HP
            rw [hk] at HC
            clear hk e1 e2
            have HH := Lib.hid h
            have HW := Lib.hid hw
            have HK := Lib.hid h'
            have HV := Lib.hid hw'
            clear h hw h' hw'
            go_enter Try.func5, Try.ntmps5
            go_wp2_with fail
            refine (HP.out).mono ?_
            rintro e w1 ⟨rfl, hb1⟩
            have HB1 := Lib.hid hb1
            clear hb1
            go_wp2_with fail
            refine (size_yes _ HS.out.1 HS.out.2 _).mono ?_
            rintro e w' ⟨rfl, rfl⟩
            go_wp2_with fail
            refine (HC.out w1 HB1.out).mono ?_
            rintro e w2 ⟨rfl, hb2⟩
            have HB2 := Lib.hid (HB1.out.trans (hb2.mono HB1.out.size))
            clear hb2
            go_wp2_with fail
            refine (known_any _).mono ?_
            rintro e w3 ⟨rfl, hb3⟩
            have HB3 := Lib.hid (HB2.out.trans (hb3.mono HB2.out.size))
            clear hb3
            go_wp2
            go_ret
            exact ⟨rfl, HB3.out⟩
          | true =>
            have e1 : checkH z tr ts = hits ts := by unfold checkH; rw [hk]; rfl
            have e2 : checkE z tr ts = 0 := by unfold checkE; rw [hk]; rfl
            rw [e1, e2] at HP
            rw [hk] at HC
            clear hk e1 e2
            have HH := Lib.hid h
            have HW := Lib.hid hw
            have HK := Lib.hid h'
            have HV := Lib.hid hw'
            clear h hw h' hw'
            go_enter Try.func5, Try.ntmps5
            go_wp2_with fail
            refine (HP.out).mono ?_
            rintro e w1 ⟨rfl, hb1⟩
            have HB1 := Lib.hid hb1
            clear hb1
            go_wp2_with fail
            refine (size_yes _ HS.out.1 HS.out.2 _).mono ?_
            rintro e w' ⟨rfl, rfl⟩
            go_wp2_with fail
            refine (HC.out w1 HB1.out).mono ?_
            rintro e w2 ⟨rfl, hb2⟩
            have HB2 := Lib.hid (HB1.out.trans (hb2.mono HB1.out.size))
            clear hb2
            go_wp2_with fail
            refine (rhits_any D n d ts w2 _ (HK.out.below HB2.out) (by omega)).mono ?_
            rintro e w' ⟨rfl, rfl⟩
            go_wp2_with fail
            refine (gives_yes _ w2).mono ?_
            rintro e w' ⟨rfl, rfl⟩
            go_wp2_with fail
            refine (known_any _).mono ?_
            rintro e w3 ⟨rfl, hb3⟩
            have HB3 := Lib.hid (HB2.out.trans (hb3.mono HB2.out.size))
            clear hb3
            go_wp2
            go_ret
            exact ⟨rfl, HB3.out⟩
        · have hnm' : ¬ (m : Int) = (n : Int) := by omega
          have HH := Lib.hid h
          have HW := Lib.hid hw
          have HK := Lib.hid h'
          have HV := Lib.hid hw'
          clear h hw h' hw'
          go_enter Try.func5, Try.ntmps5
          go_wp2_with fail
          refine (checkP_len A D n c m d z w HE.out hnm).mono ?_
          rintro e w' ⟨rfl, rfl⟩
          go_wp2_with fail
          refine (size_yes _ HS.out.1 HS.out.2 _).mono ?_
          rintro e w' ⟨rfl, rfl⟩
          go_wp2_with fail
          refine (known_any _).mono ?_
          rintro e w1 ⟨rfl, hb1⟩
          have HB1 := Lib.hid hb1
          clear hb1
          go_wp2
          go_ret
          exact ⟨rfl, HB1.out⟩
      · have he : allowedE n 4096 s = 2 := by unfold allowedE; rw [if_neg (by omega), if_pos (by omega)]
        have HE := Lib.hid he
        have HS := Lib.hid hs
        clear hs he
        have HH := Lib.hid h
        have HW := Lib.hid hw
        have HK := Lib.hid h'
        have HV := Lib.hid hw'
        clear h hw h' hw'
        go_enter Try.func5, Try.ntmps5
        go_wp2_with fail
        refine (checkP_err A D n c m d s 2 w HE.out (by omega)).mono ?_
        rintro e w' ⟨rfl, rfl⟩
        go_wp2_with fail
        refine (size_no _ HS.out _).mono ?_
        rintro e w' ⟨rfl, rfl⟩
        go_wp2_with fail
        refine (known_any _).mono ?_
        rintro e w1 ⟨rfl, hb1⟩
        have HB1 := Lib.hid hb1
        clear hb1
        go_wp2
        go_ret
        exact ⟨rfl, HB1.out⟩

theorem checks_lifted (os : Os) (started : os.Started) (H : Type) (enc : TypeId × Value → H) :
    ReturnsInHanded {} Try.checked os 5 .any (Rows.beladyChecksSpec.pre6 enc Try.prog Try.f5 Rows.beladyChecksRow.domain false) (Rows.beladyChecksSpec.post enc Try.prog Try.f5 false true false false) := by
  refine returnsInHanded_of_change_sized (C := Try.checked) own started (by kernel_rfl) Try.func5
    (ChangeSpec.witness6 (enc := enc) (C := Try.checked) false ⟨#[], #[.slice none 0 0, .int .i64 0, .slice none 0 0], []⟩ 8 (by kernel_rfl) (by kernel_rfl) (by kernel_rfl) (by kernel_rfl)) ?_
  intro W base args ds gs before hval hW _ _ _
  have hval : ∀ (j : Nat) t v, Try.f5.params[j]? = some t → args[j]? = some v → Value.okWide Try.prog W .any base t v := hval
  have hW : DataW.Whole enc Try.prog Try.f5.params.toList Rows.beladyChecksSpec.vars false W args.toList ds gs before := hW
  have hW0 := hW
  obtain ⟨p, q, hA, _, rfl, _, _⟩ := hW
  rw [Try.params5] at hA hval
  obtain ⟨v0, vs0, d0, ds0, p0, q0, hargs0, rfl, rfl, h0, r0⟩ := trodAll_cons hA
  obtain ⟨v1, vs1, d1, ds1, p1, q1, hargs1, rfl, rfl, h1, r1⟩ := trodAll_cons r0
  subst hargs1
  obtain ⟨v2, vs2, d2, ds2, p2, q2, hargs2, rfl, rfl, h2, r2⟩ := trodAll_cons r1
  subst hargs2
  obtain ⟨rfl, rfl, rfl⟩ := trodAll_nil r2
  obtain rfl : args = #[v0, v1, v2] := by cases args; simp_all
  clear hargs0
  obtain ⟨A, n, c, tr, rfl, hr, hwf, hn⟩ := read_u32 (hval 0 22 v0 rfl rfl) h0
  obtain ⟨s, rfl, rfl, rfl, _⟩ := open_int Try.underlying3 (hval 1 3 v1 rfl rfl) h1
  obtain ⟨D, m, d, ts, rfl, hr', hwf', hm⟩ := read_turns (hval 2 31 v2 rfl rfl) h2
  refine (checks_law A D n c m d s tr ts W hr hwf hr' hwf' hn hm).mono fun e W' ⟨he, hb⟩ => ?_
  subst he
  refine ⟨_, rfl, law_done rfl (by kernel_rfl) (by decide +kernel) (fun ds hl => ?_) hW0 hb⟩
  match ds, hl with
  | [_, _, _], _ => rfl

theorem checks_holds : Rows.BeladyChecksSaid :=
  OpenClaim.holds_of_wide 5 Try.f5 rfl rfl rfl rfl rfl rfl rfl ⟨rfl, rfl, rfl, rfl, rfl⟩ rfl rfl rfl rfl rfl (by kernel_rfl) Try.func5 (by kernel_rfl)
    (of_decide_eq_true (by kernel_rfl)) (by unfold Func.isWrapper; first | (rw [if_pos (by decide +kernel)]; kernel_rfl) | (rw [if_neg (by decide +kernel)]; exact ⟨rfl, rfl⟩))
    (fun os started H enc _ => checks_lifted os started H enc)

#print axioms checks_holds
end Go.Proofs.Ythclmacnmbmepaa
