/- BeladyNext: for every trace the law answers true and the trace reads as before. No condition. -/
import Derived.Test.YthclmacnmbmepaaLa
namespace Go.Proofs.Ythclmacnmbmepaa
open Go.ChangeShapes Go.WideShapes Go.ChangeAt Go.RowKit Bel

set_option maxHeartbeats 1000000 in
theorem next_law (A : Option Addr) (n c : Nat) (tr : List Int) (w : World) (h : Reads w w.heap.size 1 A n (ints .u32 tr)) (hw : ∀ x ∈ tr, (Lit.int .u32 x).wf = true) (hn : n ≤ maxLen) :
    Calls Try.prog 3 #[.slice A n c] w fun e w' => e = .returned (.bool true) ∧ Below w.heap.size w w' := by
  unfold maxLen at hn
  by_cases hb : 300 < n
  · have hb' : (300 : Int) < (n : Int) := by omega
    clear h hw
    go_enter Try.func3, Try.ntmps3
    go_wp2_with fail
    refine (known_any _).mono ?_
    rintro e w1 ⟨rfl, hb1⟩
    have HB := Lib.hid hb1
    clear hb1
    go_wp2
    go_ret
    exact ⟨rfl, HB.out⟩
  · have hb' : ¬ ((300 : Int) < (n : Int)) := by omega
    have HH := Lib.hid h
    have HW := Lib.hid hw
    clear h hw
    go_enter Try.func3, Try.ntmps3
    go_wp2_with fail
    refine (nextP_any A n c tr w HH.out HW.out (by omega)).mono ?_
    rintro e w1 ⟨v, rfl, ho1, hb1⟩
    obtain ⟨A1, c1, rfl, hr1⟩ := own_slice ho1
    have HB1 := Lib.hid hb1
    have HR1 := Lib.hid hr1
    clear ho1 hb1 hr1
    go_wp2_with fail
    refine (rnext_any A n c tr w1 ((HH.out.below HB1.out).more HB1.out.size) (by omega)).mono ?_
    rintro e w2 ⟨v, rfl, ho2, hb2⟩
    obtain ⟨A2, c2, rfl, hr2⟩ := own_slice ho2
    have HB2 := Lib.hid (HB1.out.trans (hb2.mono HB1.out.size))
    have HR1' := Lib.hid ((HR1.out.below hb2).more hb2.size)
    have HR2 := Lib.hid hr2
    clear ho2 hb2 hr2
    go_wp2_with fail
    refine (ints_any A1 A2 n c1 n c2 _ _ w2 _ HR1'.out HR2.out (by omega) (by omega)).mono ?_
    rintro e w3 ⟨rfl, q, rfl⟩
    have hd : decide (nextsTo tr n = nextsTo tr n) = true := by simp
    rw [hd]
    clear hd
    go_wp2_with fail
    refine (known_any _).mono ?_
    rintro e w4 ⟨rfl, hb4⟩
    have HB4 := Lib.hid ((show Below w.heap.size w (w2.drewN q) from ⟨HB2.out.os, HB2.out.tape, HB2.out.output, HB2.out.size, HB2.out.block⟩).trans (hb4.mono HB2.out.size))
    clear hb4
    go_wp2
    go_ret
    exact ⟨rfl, HB4.out⟩

theorem next_lifted (os : Os) (started : os.Started) (H : Type) (enc : TypeId × Value → H) :
    ReturnsInHanded {} Try.checked os 3 .any (Rows.beladyNextSpec.pre6 enc Try.prog Try.f3 Rows.beladyNextRow.domain false) (Rows.beladyNextSpec.post enc Try.prog Try.f3 false true false false) := by
  refine returnsInHanded_of_change_sized (C := Try.checked) own started (by kernel_rfl) Try.func3
    (ChangeSpec.witness6 (enc := enc) (C := Try.checked) false ⟨#[], #[.slice none 0 0], []⟩ 8 (by kernel_rfl) (by kernel_rfl) (by kernel_rfl) (by kernel_rfl)) ?_
  intro W base args ds gs before hval hW _ _ _
  have hval : ∀ (j : Nat) t v, Try.f3.params[j]? = some t → args[j]? = some v → Value.okWide Try.prog W .any base t v := hval
  have hW : DataW.Whole enc Try.prog Try.f3.params.toList Rows.beladyNextSpec.vars false W args.toList ds gs before := hW
  have hW0 := hW
  obtain ⟨p, q, hA, _, rfl, _, _⟩ := hW
  rw [Try.params3] at hA hval
  obtain ⟨v0, d0, rfl, rfl, h0⟩ := trodAll_one hA
  obtain ⟨A, n, c, tr, rfl, hr, hwf, hn⟩ := read_u32 (hval 0 22 v0 rfl rfl) h0
  refine (next_law A n c tr W hr hwf hn).mono fun e W' ⟨he, hb⟩ => ?_
  subst he
  refine ⟨_, rfl, law_done rfl (by kernel_rfl) (by decide +kernel) (fun ds hl => ?_) hW0 hb⟩
  match ds, hl with
  | [_], _ => rfl

theorem next_holds : Rows.BeladyNextSaid :=
  OpenClaim.holds_of_wide 3 Try.f3 rfl rfl rfl rfl rfl rfl rfl ⟨rfl, rfl, rfl, rfl, rfl⟩ rfl rfl rfl rfl rfl (by kernel_rfl) Try.func3 (by kernel_rfl)
    (of_decide_eq_true (by kernel_rfl)) (by unfold Func.isWrapper; first | (rw [if_pos (by decide +kernel)]; kernel_rfl) | (rw [if_neg (by decide +kernel)]; exact ⟨rfl, rfl⟩))
    (fun os started H enc _ => next_lifted os started H enc)

#print axioms next_holds
end Go.Proofs.Ythclmacnmbmepaa
