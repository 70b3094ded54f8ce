/- WatchNone: for every call the law answers true and it reads as before. No condition. -/
import Derived.Test.YtfimgkjdfjlkhaaMu
namespace Go.Proofs.Ytfimgkjdfjlkhaa
open Go.ChangeShapes Go.WideShapes Go.ChangeAt Go.RowKit Go.Deep

set_option maxRecDepth 100000 in
set_option maxHeartbeats 2000000 in
theorem none_law (a : Ac) (w : World) (h : AcIn w a) :
    Calls Try.prog 7 #[a.v] w fun e w' => e = .returned (.bool true) ∧ Below w.heap.size w w' := by
  have hb := (Below.refl _ w).alloc (Nat.le_refl _) (.cells a.cells.toArray 50)
  have kb := Blk.new w 50 a.cells.toArray
  have HLI := Lib.hid (light_any a (w.alloc (.cells a.cells.toArray 50)) ((h.evs.below hb).more hb.size) h.len)
  have HB := Lib.hid hb
  have HKB := Lib.hid kb
  clear h hb
  obtain ⟨what, n, m, r, eA, ec, es⟩ := a
  simp only [Ac.v, Ac.cells] at HLI HB HKB kb ⊢
  have c0 := kb.cell 0
  have c1 := kb.cell 1
  have c2 := kb.cell 2
  have c3 := kb.cell 3
  have c4 := kb.cell 4
  have c5 := kb.cell 5
  have c6 := kb.cell 6
  have c7 := kb.cell 7
  simp only [List.getElem?_toArray, List.getElem?_cons_zero, List.getElem?_cons_succ] at c0 c1 c2 c3 c4 c5 c6 c7
  clear kb
  go_enter Try.func7, Try.ntmps7
  go_wp2_with fail
  refine HLI.out.mono ?_
  rintro e w1 ⟨b, rfl, -, hb1⟩
  have HB1 := Lib.hid (HB.out.trans (hb1.mono HB.out.size))
  have k1 := HKB.out.below hb1 HKB.out.lt
  clear hb1 c0 c1 c2 c3 c4 c5 c6 c7 HLI
  cases b with
  | false =>
    clear k1
    go_wp2_with fail
    refine (known_any _).mono ?_
    rintro e w2 ⟨rfl, hb2⟩
    have HB2 := Lib.hid (HB1.out.trans (hb2.mono HB1.out.size))
    clear hb2
    go_wp2
    go_ret
    exact ⟨rfl, HB2.out⟩
  | true =>
    have HK1 := Lib.hid k1
    have c1 := k1.cell 1
    have c2 := k1.cell 2
    have c3 := k1.cell 3
    have c4 := k1.cell 4
    have c5 := k1.cell 5
    have c6 := k1.cell 6
    have c7 := k1.cell 7
    simp only [List.getElem?_toArray, List.getElem?_cons_zero, List.getElem?_cons_succ] at c1 c2 c3 c4 c5 c6 c7
    clear k1
    go_wp2_with fail
    refine (removeN _ _).mono ?_
    rintro e w2 ⟨rfl, rfl⟩
    go_wp2_with fail
    refine (pubN _ _ _ _).mono ?_
    rintro e w2 ⟨rfl, rfl⟩
    go_wp2_with fail
    refine (takeN _ _ _).mono ?_
    rintro e w2 ⟨rfl, rfl⟩
    go_wp2_with fail
    refine (lostN _ _).mono ?_
    rintro e w2 ⟨rfl, rfl⟩
    go_wp2_with fail
    refine (ruleN _ _).mono ?_
    rintro e w2 ⟨rfl, hb2⟩
    have k2 := HK1.out.below hb2 HK1.out.lt
    have HB2 := Lib.hid (HB1.out.trans (hb2.mono HB1.out.size))
    have hz := Blk.new w2 24 #[.string ⟨#[]⟩, .slice none 0 0, .int .i64 0, .bool false]
    have HZ := Lib.hid hz
    clear hz c1 c2 c3 c4 c5 c6 c7
    have c3 := k2.cell 3
    have c4 := k2.cell 4
    have c5 := k2.cell 5
    have c6 := k2.cell 6
    simp only [List.getElem?_toArray, List.getElem?_cons_zero, List.getElem?_cons_succ] at c3 c4 c5 c6
    have lt0 := k2.lt
    have ne0 := World.new_ne w2 _ c3
    clear k2 hb2
    go_wp2_with fail
    refine (addsN _ r).mono ?_
    rintro e w3 ⟨rfl, hb3⟩
    have HB3 := Lib.hid ((HB2.out.alloc HB2.out.size (.cells #[.string ⟨#[]⟩, .slice none 0 0, .int .i64 0, .bool false] 24)).trans (hb3.mono (Nat.le_trans HB2.out.size (by simp))))
    have k3 := HZ.out.below hb3 (by simp)
    have d2 := k3.cell 2
    simp only [List.getElem?_toArray, List.getElem?_cons_zero, List.getElem?_cons_succ] at d2
    clear k3 hb3 c3 c4 c5 c6
    go_wp2_with fail
    refine (watchersN _).mono ?_
    rintro e w4 ⟨rfl, rfl⟩
    go_wp2_with fail
    refine (copyN _).mono ?_
    rintro e w4 ⟨rfl, rfl⟩
    go_wp2_with fail
    refine (known_any _).mono ?_
    rintro e w5 ⟨rfl, hb5⟩
    have HB5 := Lib.hid (HB3.out.trans (hb5.mono HB3.out.size))
    clear hb5
    go_wp2
    go_ret
    exact ⟨rfl, HB5.out⟩

set_option maxRecDepth 100000 in
theorem none_lifted (os : Os) (started : os.Started) (H : Type) (enc : TypeId × Value → H) :
    ReturnsInHanded {} Try.checked os 7 .any (Rows.watchNoneSpec.pre6 enc Try.prog Try.f7 Rows.watchNoneRow.domain false) (Rows.watchNoneSpec.post enc Try.prog Try.f7 false true false false) := by
  refine returnsInHanded_of_change_sized (C := Try.checked) own started (by kernel_rfl) Try.func7
    (ChangeSpec.witness6 (enc := enc) (C := Try.checked) false ⟨#[], #[.agg #[.int .i64 0, .int .i64 0, .int .i64 0, .string ⟨#[]⟩, .slice none 0 0, .int .i64 0, .bool false, .slice none 0 0]], []⟩ 8 (by kernel_rfl) (by kernel_rfl) (by kernel_rfl) (by kernel_rfl)) ?_
  intro W base args ds gs before hval hW _ _ _
  have hval : ∀ (j : Nat) t v, Try.f7.params[j]? = some t → args[j]? = some v → Value.okWide Try.prog W .any base t v := hval
  have hW : DataW.Whole enc Try.prog Try.f7.params.toList Rows.watchNoneSpec.vars false W args.toList ds gs before := hW
  have hW0 := hW
  obtain ⟨p, q, hA, _, rfl, _, _⟩ := hW
  rw [Try.params7] at hA hval
  obtain ⟨v0, d0, rfl, rfl, h0⟩ := trodAll_one hA
  obtain ⟨a, rfl, ha⟩ := in_act (hval 0 50 v0 rfl rfl) h0
  refine (none_law a W ha).mono fun e W' ⟨he, hb⟩ => ?_
  subst he
  refine ⟨_, rfl, law_done rfl (by kernel_rfl) (by decide +kernel) (fun ds hl => ?_) hW0 hb⟩
  match ds, hl with
  | [_], _ => rfl

theorem none_holds : Rows.WatchNoneSaid :=
  OpenClaim.holds_of_wide 7 Try.f7 rfl rfl rfl rfl rfl rfl rfl ⟨rfl, rfl, rfl, rfl, rfl⟩ rfl rfl rfl rfl rfl (by kernel_rfl) Try.func7 (by kernel_rfl)
    (of_decide_eq_true (by kernel_rfl)) (by unfold Func.isWrapper; first | (rw [if_pos (by decide +kernel)]; kernel_rfl) | (rw [if_neg (by decide +kernel)]; exact ⟨rfl, rfl⟩))
    (fun os started H enc _ => none_lifted os started H enc)

#print axioms none_holds
end Go.Proofs.Ytfimgkjdfjlkhaa
