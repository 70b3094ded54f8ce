/- BeladyTurns: for every trace and every size the law answers true and the trace reads as before. No condition. -/
import Derived.Test.YthclmacnmbmepaaLb
namespace Go.Proofs.Ythclmacnmbmepaa
open Go.ChangeShapes Go.WideShapes Go.ChangeAt Go.RowKit Bel

set_option maxHeartbeats 2000000 in
theorem turns_law (A : Option Addr) (n c : Nat) (s : Int) (tr : List Int) (w : World) (h : Reads w w.heap.size 1 A n (ints .u32 tr)) (hw : ∀ x ∈ tr, (Lit.int .u32 x).wf = true) (hn : n ≤ maxLen) :
    Calls Try.prog 4 #[.slice A n c, .int .i64 s] w fun e w' => e = .returned (.bool true) ∧ Below w.heap.size w w' := by
  unfold maxLen at hn
  by_cases hb : 200 < n
  · have hb' : (200 : Int) < (n : Int) := by omega
    have HH := Lib.hid h
    have HW := Lib.hid hw
    clear h hw
    go_enter Try.func4, Try.ntmps4
    go_wp2_with fail
    refine (known_any _).mono ?_
    rintro e w1 ⟨rfl, hb1⟩
    have HB1 := Lib.hid hb1
    clear hb1
    go_wp2
    go_ret
    exact ⟨rfl, HB1.out⟩
  · have hb' : ¬ ((200 : Int) < (n : Int)) := by omega
    by_cases hs : 1 ≤ s ∧ s ≤ 1024
    · obtain ⟨m, rfl⟩ : ∃ m : Nat, s = m := ⟨s.toNat, by omega⟩
      have hs1 : 1 ≤ m := by omega
      have hs2 : m ≤ 1024 := by omega
      have HS := Lib.hid hs
      clear hs
      have HH := Lib.hid h
      have HW := Lib.hid hw
      clear h hw
      go_enter Try.func4, Try.ntmps4
      go_wp2_with fail
      refine (turnsP_any A n c m tr w HH.out HW.out (by omega) hs1 hs2).mono ?_
      rintro e w1 ⟨g, rfl, hg, hk1, hb1⟩
      have HB1 := Lib.hid hb1
      have HK1 := Lib.hid (hk1.reads (n := n) (size := 3) (turns_len HH.out))
      clear hb1 hk1
      go_wp2_with fail
      refine (hitsP_any A n c m tr w1 ((HH.out.below HB1.out).more HB1.out.size) HW.out (by omega) hs1 hs2).mono ?_
      rintro e w2 ⟨rfl, hb2⟩
      have HB2 := Lib.hid (HB1.out.trans (hb2.mono HB1.out.size))
      have HK2 := Lib.hid ((HK1.out.below hb2).more hb2.size)
      clear hb2
      go_wp2_with fail
      refine (size_yes _ HS.out.1 HS.out.2 _).mono ?_
      rintro e w' ⟨rfl, rfl⟩
      go_wp2_with fail
      refine (rturns_any A n c m tr w2 ((HH.out.below HB2.out).more HB2.out.size) (by omega) hs1 hs2).mono ?_
      rintro e w3 ⟨v, rfl, ho3, hb3⟩
      obtain ⟨A3, c3, rfl, hr3⟩ := own_slice ho3
      have HB3 := Lib.hid (HB2.out.trans (hb3.mono HB2.out.size))
      have HK3 := Lib.hid ((HK2.out.below hb3).more hb3.size)
      have HR3 := Lib.hid hr3
      clear ho3 hb3 hr3
      go_wp2_with fail
      refine (same_yes _ A3 n n n c3 _ w3 _ HK3.out HR3.out (by omega) (by omega)).mono ?_
      rintro e w4 ⟨rfl, hq4⟩
      have hb4 : Below w.heap.size w w4 := by obtain ⟨q, rfl⟩ := hq4; exact ⟨HB3.out.os, HB3.out.tape, HB3.out.output, HB3.out.size, HB3.out.block⟩
      have HB4 := Lib.hid hb4
      have HR4 : Hid (Reads w4 w3.heap.size 3 A3 n (tcells (turnsL m tr []))) := by obtain ⟨q, rfl⟩ := hq4; exact Lib.hid HR3.out
      clear hb4 hq4
      go_wp2_with fail
      refine (rhits_any A3 n c3 _ w4 _ HR4.out (by omega)).mono ?_
      rintro e w' ⟨rfl, rfl⟩
      go_wp2_with fail
      refine (known_any _).mono ?_
      rintro e w5 ⟨rfl, hb5⟩
      have HB5 := Lib.hid (HB4.out.trans (hb5.mono HB4.out.size))
      clear hb5
      go_wp2
      go_ret
      exact ⟨rfl, HB5.out⟩
    · have he : allowedE n 4096 s = 2 := by unfold allowedE; rw [if_neg (by omega), if_pos (by omega)]
      have HE := Lib.hid he
      have HS := Lib.hid hs
      clear hs he
      have HH := Lib.hid h
      have HW := Lib.hid hw
      clear h hw
      go_enter Try.func4, Try.ntmps4
      go_wp2_with fail
      refine (turnsP_err A n c s 2 w HE.out (by omega)).mono ?_
      rintro e w' ⟨rfl, rfl⟩
      go_wp2_with fail
      refine (hitsP_err A n c s 2 w HE.out (by omega)).mono ?_
      rintro e w1 ⟨rfl, hb1⟩
      have HB1 := Lib.hid hb1
      clear hb1
      go_wp2_with fail
      refine (size_no _ HS.out _).mono ?_
      rintro e w' ⟨rfl, rfl⟩
      go_wp2_with fail
      refine (known_any _).mono ?_
      rintro e w2 ⟨rfl, hb2⟩
      have HB2 := Lib.hid (HB1.out.trans (hb2.mono HB1.out.size))
      clear hb2
      go_wp2
      go_ret
      exact ⟨rfl, HB2.out⟩

theorem turns_lifted (os : Os) (started : os.Started) (H : Type) (enc : TypeId × Value → H) :
    ReturnsInHanded {} Try.checked os 4 .any (Rows.beladyTurnsSpec.pre6 enc Try.prog Try.f4 Rows.beladyTurnsRow.domain false) (Rows.beladyTurnsSpec.post enc Try.prog Try.f4 false true false false) := by
  refine returnsInHanded_of_change_sized (C := Try.checked) own started (by kernel_rfl) Try.func4
    (ChangeSpec.witness6 (enc := enc) (C := Try.checked) false ⟨#[], #[.slice none 0 0, .int .i64 0], []⟩ 8 (by kernel_rfl) (by kernel_rfl) (by kernel_rfl) (by kernel_rfl)) ?_
  intro W base args ds gs before hval hW _ _ _
  have hval : ∀ (j : Nat) t v, Try.f4.params[j]? = some t → args[j]? = some v → Value.okWide Try.prog W .any base t v := hval
  have hW : DataW.Whole enc Try.prog Try.f4.params.toList Rows.beladyTurnsSpec.vars false W args.toList ds gs before := hW
  have hW0 := hW
  obtain ⟨p, q, hA, _, rfl, _, _⟩ := hW
  rw [Try.params4] at hA hval
  obtain ⟨v0, vs0, d0, ds0, p0, q0, hargs0, rfl, rfl, h0, r0⟩ := trodAll_cons hA
  obtain ⟨v1, vs1, d1, ds1, p1, q1, hargs1, rfl, rfl, h1, r1⟩ := trodAll_cons r0
  subst hargs1
  obtain ⟨rfl, rfl, rfl⟩ := trodAll_nil r1
  obtain rfl : args = #[v0, v1] := by cases args; simp_all
  clear hargs0
  obtain ⟨A, n, c, tr, rfl, hr, hwf, hn⟩ := read_u32 (hval 0 22 v0 rfl rfl) h0
  obtain ⟨s, rfl, rfl, rfl, _⟩ := open_int Try.underlying3 (hval 1 3 v1 rfl rfl) h1
  refine (turns_law A n c s tr W hr hwf hn).mono fun e W' ⟨he, hb⟩ => ?_
  subst he
  refine ⟨_, rfl, law_done rfl (by kernel_rfl) (by decide +kernel) (fun ds hl => ?_) hW0 hb⟩
  match ds, hl with
  | [_, _], _ => rfl

theorem turns_holds : Rows.BeladyTurnsSaid :=
  OpenClaim.holds_of_wide 4 Try.f4 rfl rfl rfl rfl rfl rfl rfl ⟨rfl, rfl, rfl, rfl, rfl⟩ rfl rfl rfl rfl rfl (by kernel_rfl) Try.func4 (by kernel_rfl)
    (of_decide_eq_true (by kernel_rfl)) (by unfold Func.isWrapper; first | (rw [if_pos (by decide +kernel)]; kernel_rfl) | (rw [if_neg (by decide +kernel)]; exact ⟨rfl, rfl⟩))
    (fun os started H enc _ => turns_lifted os started H enc)

#print axioms turns_holds
end Go.Proofs.Ythclmacnmbmepaa
