/- What a valid event is, as the code finds it. No condition but that lengths are lengths. -/
import Derived.Test.YtfimgkjdfjlkhaaHa
namespace Go.Proofs.Ytfimgkjdfjlkhaa
open Go.RowKit

def firstE (b1 b2 : Bool) : Int := if b1 then 2 else if b2 then 5 else 0
set_option maxHeartbeats 1000000 in
theorem first_two (g : Nat) (b1 b2 : Bool) (w : World) (h : Blk w g 111 #[.bool b1, .int .i64 2, .bool b2, .int .i64 5]) :
    Calls Try.prog 63 #[.slice (some ⟨g, 0, none⟩) 2 2] w fun e w' => e = .returned (.int .i64 (firstE b1 b2)) ∧ Below w.heap.size w w' := by
  have c0 := h.cell 0
  have c1 := h.cell 1
  have c2 := h.cell 2
  have c3 := h.cell 3
  simp only [List.getElem?_toArray, List.getElem?_cons_zero, List.getElem?_cons_succ] at c0 c1 c2 c3
  have hlt := h.lt
  have HB := Lib.hid h
  clear h
  go_enter Try.func63, Try.ntmps63
  go_wp2
  go_loopw [7] (fun x wr => ∃ j : Nat, j ≤ 2 ∧ x = .int .i64 j ∧ Below w.heap.size w wr ∧ (1 ≤ j → b1 = false) ∧ (2 ≤ j → b2 = false)) (fun x _ => 2 - (intOf x).toNat)
  case atStart => exact ⟨0, by omega, rfl, Below.refl _ _, fun h => absurd h (by omega), fun h => absurd h (by omega)⟩
  case round =>
    obtain ⟨j, hj, rfl, hb, h1, h2⟩ := hrel
    have hc : ∀ i : Nat, wr.cell? ⟨g, i, none⟩ = w.cell? ⟨g, i, none⟩ := fun i => hb.cell hlt
    have d0 := (hc 0).trans c0
    have d1 := (hc 1).trans c1
    have d2 := (hc 2).trans c2
    have d3 := (hc 3).trans c3
    have HBW := Lib.hid hb
    clear hc hb
    have hcase : j = 0 ∨ j = 1 ∨ j = 2 := by omega
    rcases hcase with rfl | rfl | rfl
    · cases b1 with
      | true =>
        go_wp2
        go_ret
        exact ⟨rfl, (HBW.out.alloc HBW.out.size _)⟩
      | false =>
        clear h1 h2
        go_wp2
        go_roundw
        case rel => exact ⟨1, by omega, rfl, HBW.out.alloc HBW.out.size _, by simp, fun h => absurd h (by omega)⟩
        case measure => simp [intOf]
    · have hb1 := h1 (by omega)
      subst hb1
      cases b2 with
      | true =>
        clear h1 h2
        go_wp2
        go_ret
        exact ⟨rfl, (HBW.out.alloc HBW.out.size _)⟩
      | false =>
        clear h1 h2
        go_wp2
        go_roundw
        case rel => exact ⟨2, by omega, rfl, HBW.out.alloc HBW.out.size _, by simp, by simp⟩
        case measure => simp [intOf]
    · have hb1 := h1 (by omega)
      have hb2 := h2 (by omega)
      subst hb1 hb2
      clear h1 h2
      go_wp2
      go_ret
      exact ⟨rfl, HBW.out⟩

/-- The error of a key, a value and a birth number. -/
def checkE (ks n : Nat) (birth : Int) : Int := firstE (!keyB ks || birth == 0) (decide ((65536 : Int) < (n : Int)))
set_option maxHeartbeats 1000000 in
theorem check_any (s : ByteArray) (A : Option Addr) (n c : Nat) (birth : Int) (w : World) (hs : s.size ≤ maxLen) :
    Calls Try.prog 59 #[.string s, .slice A n c, .int .u64 birth] w fun e w' => e = .returned (.int .i64 (checkE s.size n birth)) ∧ Below w.heap.size w w' := by
  have HV := Lib.hid (validKey_any s w hs)
  have HF := Lib.hid (fun b1 b2 => first_two w.heap.size b1 b2 (w.alloc (.cells #[.bool b1, .int .i64 2, .bool b2, .int .i64 5] 111)) (Blk.new w 111 _))
  have HB := Lib.hid (fun b1 b2 => (show Below w.heap.size w (w.alloc (.cells #[.bool b1, .int .i64 2, .bool b2, .int .i64 5] 111)) from (Below.refl _ _).alloc (Nat.le_refl _) _))
  have hE : checkE s.size n birth = firstE (!keyB s.size || birth == 0) (decide ((65536 : Int) < (n : Int))) := rfl
  have HE := Lib.hid hE
  clear hE
  cases hk : keyB s.size with
  | false =>
    rw [hk] at HV HE
    clear hk
    go_enter Try.func59, Try.ntmps59
    go_wp2_with fail
    refine HV.out.mono ?_
    rintro e w' ⟨rfl, rfl⟩
    go_wp2_with fail
    refine (HF.out true (decide ((65536 : Int) < (n : Int)))).mono ?_
    rintro e w1 ⟨rfl, hb1⟩
    go_wp2
    go_ret
    exact ⟨ret_int (by rw [HE.out]; rfl), (HB.out _ _).trans (hb1.mono (HB.out _ _).size)⟩
  | true =>
    rw [hk] at HV HE
    clear hk
    cases hb : (birth == 0) with
    | true =>
      rw [hb] at HE
      go_enter Try.func59, Try.ntmps59
      go_wp2_with fail
      refine HV.out.mono ?_
      rintro e w' ⟨rfl, rfl⟩
      go_wp2_with fail
      refine (HF.out true (decide ((65536 : Int) < (n : Int)))).mono ?_
      rintro e w1 ⟨rfl, hb1⟩
      go_wp2
      go_ret
      exact ⟨ret_int (by rw [HE.out]; rfl), (HB.out _ _).trans (hb1.mono (HB.out _ _).size)⟩
    | false =>
      rw [hb] at HE
      go_enter Try.func59, Try.ntmps59
      go_wp2_with fail
      refine HV.out.mono ?_
      rintro e w' ⟨rfl, rfl⟩
      go_wp2_with fail
      refine (HF.out false (decide ((65536 : Int) < (n : Int)))).mono ?_
      rintro e w1 ⟨rfl, hb1⟩
      go_wp2
      go_ret
      exact ⟨ret_int (by rw [HE.out]; rfl), (HB.out _ _).trans (hb1.mono (HB.out _ _).size)⟩
def okB (ks n : Nat) (birth : Int) : Bool := checkE ks n birth == 0
theorem entry_valid (s : ByteArray) (A : Option Addr) (n c : Nat) (d birth : Int) (w : World) (hs : s.size ≤ maxLen) :
    Calls Try.prog 51 #[.agg #[.string s, .slice A n c, .int .u64 d, .int .u64 birth]] w fun e w' => e = .returned (.bool (okB s.size n birth)) ∧ Below w.heap.size w w' := by
  have HC := Lib.hid (fun w => check_any s A n c birth w hs)
  have HE : Hid (okB s.size n birth = (checkE s.size n birth == 0)) := Lib.hid rfl
  generalize checkE s.size n birth = z at HC HE
  go_enter Try.func51, Try.ntmps51
  go_wp2_with fail
  refine (HC.out _).mono ?_
  rintro e w1 ⟨rfl, hb1⟩
  go_wp2
  go_ret
  exact ⟨ret_bool HE.out.symm, ((Below.refl _ w).alloc (Nat.le_refl _) _).trans (hb1.mono (by simp))⟩
theorem of_any (k : Int) (s : ByteArray) (A : Option Addr) (n c : Nat) (birth d t : Int) (w : World) :
    Calls Try.prog 52 #[.agg #[.int .i64 k, .string s, .slice A n c, .int .u64 birth, .int .u64 d, .int .u64 t]] w fun e w' => e = .returned (.agg #[.string s, .slice A n c, .int .u64 d, .int .u64 birth]) ∧ Below w.heap.size w w' := by
  go_enter Try.func52, Try.ntmps52
  go_wp2
  exact bodyPost_ret (v := .agg #[.string s, .slice A n c, .int .u64 d, .int .u64 birth]) (by simp [results, Try.results52, go_sem]) rfl ⟨rfl, by repeat (first | exact Below.refl _ _ | exact (Below.refl _ w).alloc (Nat.le_refl _) _ | (refine Below.alloc ?_ (by simp) _))⟩
end Go.Proofs.Ytfimgkjdfjlkhaa
