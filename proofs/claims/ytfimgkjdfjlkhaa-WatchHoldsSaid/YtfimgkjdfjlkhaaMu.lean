/- 'light' and 'few'; what a nil hub answers. -/
import Derived.Test.YtfimgkjdfjlkhaaMt
namespace Go.Proofs.Ytfimgkjdfjlkhaa
open Go.RowKit Go.Deep Go.Maps

/-- What light calls have. -/
structure LightA (a : Ac) : Prop where
  few : a.es.length ≤ 20
  each : ∀ h ∈ a.es, h.e.key.size ≤ 300 ∧ h.e.val.length ≤ 100
  kinds : a.r.kinds.length ≤ 10
  pre : a.r.pre.size ≤ 300
def lightTo (w : World) (a : Ac) (e : Ending) (w' : World) : Prop := ∃ b : Bool, e = .returned (.bool b) ∧ (b = true → LightA a) ∧ Below w.heap.size w w'
set_option maxRecDepth 100000 in
set_option maxHeartbeats 2000000 in
theorem light_any (a : Ac) (w : World) (hev : EvsAt w w.heap.size a.eA a.es.length a.es) (hl : a.es.length ≤ maxLen) :
    Calls Try.prog 25 #[a.v] w (lightTo w a) := by
  obtain ⟨what, n, m, ⟨p, kinds, room, oldest, kA, kc⟩, eA, ec, es⟩ := a
  simp only [Ac.v] at hev hl ⊢
  have hb := (Below.refl _ w).alloc (Nat.le_refl _) (.cells #[.int .i64 what, .int .i64 n, .int .i64 m, .string p, .slice kA kinds.length kc, .int .i64 room, .bool oldest, .slice eA es.length ec] 50)
  have kb := Blk.new w 50 #[.int .i64 what, .int .i64 n, .int .i64 m, .string p, .slice kA kinds.length kc, .int .i64 room, .bool oldest, .slice eA es.length ec]
  have he := hev.below hb
  unfold maxLen at hl
  have HB := Lib.hid hb
  have HE := Lib.hid he
  have c3 := kb.cell 3
  have c4 := kb.cell 4
  have c7 := kb.cell 7
  simp only [List.getElem?_toArray, List.getElem?_cons_zero, List.getElem?_cons_succ] at c3 c4 c7
  clear hb kb he hev
  go_enter Try.func25, Try.ntmps25
  go_wp2
  generalize w.alloc (.cells #[.int .i64 what, .int .i64 n, .int .i64 m, .string p, .slice kA kinds.length kc, .int .i64 room, .bool oldest, .slice eA es.length ec] 50) = w0 at *
  go_loopw [3] (fun x wr => ∃ j : Nat, j ≤ es.length ∧ j ≤ 20 ∧ x = .int .i64 j ∧ wr = w0 ∧ ∀ i < j, (hnth es i).e.key.size ≤ 300 ∧ (hnth es i).e.val.length ≤ 100) (fun x _ => 20 - (intOf x).toNat)
  case atStart => exact ⟨0, Nat.zero_le _, Nat.zero_le _, rfl, rfl, fun i hi => absurd hi (by omega)⟩
  case round =>
    obtain ⟨j, hj, hj20, rfl, rfl, hall⟩ := hrel
    have HA := Lib.hid hall
    clear hall
    by_cases hlt : j < es.length
    · by_cases hlt20 : j < 20
      · have hj0 : (0 : Int) ≤ (j : Int) := Int.natCast_nonneg _
        have hj1 : (j : Int) < (es.length : Int) := by omega
        have hj2 : (j : Int) < 20 := by omega
        obtain ⟨b, o, rfl, hbl, a0, a1, a2, a3, a4, a5⟩ := HE.out.at_ hlt
        clear a0 a3 a4 a5
        by_cases h1 : (300 : Int) < ((hnth es j).e.key.size : Int)
        · go_wp2
          go_ret
          exact ⟨false, rfl, by simp, HB.out⟩
        · by_cases h2 : (100 : Int) < ((hnth es j).e.val.length : Int)
          · go_wp2
            go_ret
            exact ⟨false, rfl, by simp, HB.out⟩
          · go_wp2
            go_roundw
            case rel =>
              refine ⟨j + 1, by omega, by omega, by go_num, (by first | rfl | trivial), fun i hi => ?_⟩
              by_cases e : i = j
              · subst e; omega
              · exact HA.out i (by omega)
            case measure => simp [intOf]; omega
      · have hd1 : (j : Int) < (es.length : Int) := by omega
        have hd2 : decide ((j : Int) < 20) = false := by simp; omega
        have hd3 : decide ((es.length : Int) ≤ 20) = false := by simp; omega
        go_wp2
        go_ret
        exact ⟨false, rfl, by simp, HB.out⟩
    · have hd1 : decide ((j : Int) < (es.length : Int)) = false := by simp; omega
      have hd3 : (es.length : Int) ≤ 20 := by omega
      have hje : Hid (j = es.length) := Lib.hid (by omega)
      by_cases h1 : (kinds.length : Int) ≤ 10
      · go_wp2
        go_ret
        refine ⟨_, rfl, fun hp => ?_, HB.out⟩
        simp only [decide_eq_true_eq] at hp
        refine ⟨by show es.length ≤ 20; omega, fun h hh => ?_, by show kinds.length ≤ 10; omega, by show p.size ≤ 300; omega⟩
        obtain ⟨i, hi, rfl⟩ := List.getElem_of_mem hh
        rw [← hnth_eq hi]
        exact HA.out i (by rw [hje.out]; exact hi)
      · have hd4 : decide ((kinds.length : Int) ≤ 10) = false := by simp; omega
        go_wp2
        go_ret
        exact ⟨false, rfl, by simp, HB.out⟩
/-- A nil hub. -/
theorem findN (w : World) (k : Int) : Calls Try.prog 39 #[.pointer none, .int .i64 k] w fun e w' => e = .returned (.tuple #[.pointer none, .int .i64 1]) ∧ w = w' := by
  go_enter Try.func39, Try.ntmps39
  go_wp2
  go_ret2
  exact ⟨rfl, rfl⟩
theorem removeN (w : World) (k : Int) : Calls Try.prog 22 #[.pointer none, .int .i64 k] w fun e w' => e = .returned (.tuple #[.int .i64 0, .int .i64 1]) ∧ w = w' := by
  have HF := Lib.hid (findN w k)
  go_enter Try.func22, Try.ntmps22
  go_wp2_with fail
  refine HF.out.mono ?_
  rintro e w' ⟨rfl, rfl⟩
  go_wp2
  go_ret2
  exact ⟨rfl, rfl⟩
theorem lostN (w : World) (k : Int) : Calls Try.prog 21 #[.pointer none, .int .i64 k] w fun e w' => e = .returned (.tuple #[.int .i64 0, .int .i64 1]) ∧ w = w' := by
  have HF := Lib.hid (findN w k)
  go_enter Try.func21, Try.ntmps21
  go_wp2_with fail
  refine HF.out.mono ?_
  rintro e w' ⟨rfl, rfl⟩
  go_wp2
  go_ret2
  exact ⟨rfl, rfl⟩
theorem takeN (w : World) (k mx : Int) : Calls Try.prog 19 #[.pointer none, .int .i64 k, .int .i64 mx] w fun e w' => e = .returned (.tuple #[.slice none 0 0, .int .i64 1]) ∧ w = w' := by
  go_enter Try.func19, Try.ntmps19
  go_wp2
  go_ret2
  exact ⟨rfl, rfl⟩
theorem pubN (w : World) (A : Option Addr) (k c : Nat) : Calls Try.prog 13 #[.pointer none, .slice A k c] w fun e w' => e = .returned (.tuple #[.int .i64 0, .int .i64 1]) ∧ w = w' := by
  go_enter Try.func13, Try.ntmps13
  go_wp2
  go_ret2
  exact ⟨rfl, rfl⟩
theorem addN (w : World) (r : Ri) : Calls Try.prog 17 #[.pointer none, r.v] w fun e w' => e = .returned (.tuple #[.int .i64 0, .int .i64 1]) ∧ Below w.heap.size w w' := by
  unfold Ri.v
  go_enter Try.func17, Try.ntmps17
  go_wp2
  go_ret2
  exact ⟨rfl, (Below.refl _ w).alloc (Nat.le_refl _) _⟩
theorem addsN (w : World) (r : Ri) : Calls Try.prog 11 #[.pointer none, r.v, .int .i64 0, .int .i64 1] w fun e w' => e = .returned (.bool true) ∧ Below w.heap.size w w' := by
  have HA := Lib.hid (addN (w.alloc (.cells r.cells 24)) r)
  unfold Ri.v Ri.cells at *
  go_enter Try.func11, Try.ntmps11
  go_wp2_with fail
  refine HA.out.mono ?_
  rintro e w1 ⟨rfl, hb1⟩
  have HB := Lib.hid (((Below.refl _ w).alloc (Nat.le_refl _) (.cells #[.string r.pre, .slice r.kA r.kinds.length r.kc, .int .i64 r.room, .bool r.oldest] 24)).trans (hb1.mono (by simp)))
  clear hb1
  go_wp2
  go_ret
  exact ⟨rfl, HB.out⟩
theorem watchersN (w : World) : Calls Try.prog 27 #[.pointer none] w fun e w' => e = .returned (.slice none 0 0) ∧ w = w' := by
  go_enter Try.func27, Try.ntmps27
  go_wp2
  go_ret
  exact ⟨rfl, rfl⟩
theorem copyN (w : World) : Calls Try.prog 28 #[.pointer none] w fun e w' => e = .returned (.pointer none) ∧ w = w' := by
  go_enter Try.func28, Try.ntmps28
  go_wp2
  go_ret
  exact ⟨rfl, rfl⟩
theorem ruleN (w : World) (k : Int) : Calls Try.prog 26 #[.pointer none, .int .i64 k] w fun e w' => e = .returned (.tuple #[.agg #[.string ⟨#[]⟩, .slice none 0 0, .int .i64 0, .bool false], .int .i64 1]) ∧ Below w.heap.size w w' := by
  have HF := Lib.hid (fun w => findN w k)
  go_enter Try.func26, Try.ntmps26
  go_wp2_with fail
  refine (HF.out _).mono ?_
  rintro e w' ⟨rfl, rfl⟩
  go_wp2
  have kb := Blk.new w 24 #[.string ⟨#[]⟩, .slice none 0 0, .int .i64 0, .bool false]
  have c0 := kb.cell 0
  have c1 := kb.cell 1
  have c2 := kb.cell 2
  have c3 := kb.cell 3
  simp only [List.getElem?_toArray, List.getElem?_cons_zero, List.getElem?_cons_succ] at c0 c1 c2 c3
  exact bodyPost_ret (v := .tuple #[.agg #[.string ⟨#[]⟩, .slice none 0 0, .int .i64 0, .bool false], .int .i64 1]) (by simp [results, Try.results26, go_sem, c0, c1, c2, c3]) rfl ⟨rfl, (Below.refl _ w).alloc (Nat.le_refl _) _⟩
end Go.Proofs.Ytfimgkjdfjlkhaa
