/- Are all events of a list valid? As the code finds it. At most a million events. -/
import Derived.Test.YtfimgkjdfjlkhaaHd
namespace Go.Proofs.Ytfimgkjdfjlkhaa
open Go.RowKit Go.Deep

theorem bad_any (h : Hv) (w : World) (hk : h.e.key.size ≤ maxLen) : Calls Try.prog 34 #[h.v] w fun e w' => e = .returned (.bool (!validE h.e)) ∧ Below w.heap.size w w' := by
  have hv : ∀ w, Calls Try.prog 35 #[h.v] w fun e w' => e = .returned (.bool (validE h.e)) ∧ Below w.heap.size w w' := fun w => valid_any h.e.kind h.e.key h.A h.e.val.length h.c h.e.birth h.e.due h.e.at_ w hk
  have HV := Lib.hid hv
  clear hv
  generalize validE h.e = b at *
  obtain ⟨⟨kd, key, val, birth, due, at_⟩, A, c⟩ := h
  simp only [Hv.v] at HV ⊢
  go_enter Try.func34, Try.ntmps34
  go_wp2_with fail
  refine (HV.out _).mono ?_
  rintro e w1 ⟨rfl, hb⟩
  go_wp2
  go_ret
  exact ⟨rfl, ((Below.refl _ w).alloc (Nat.le_refl _) _).trans (hb.mono (by simp))⟩
/-- Is one of them not valid? -/
def badB (hs : List Hv) : Bool := hs.any fun h => !validE h.e
def badTo (w : World) (hs : List Hv) (e : Ending) (w' : World) : Prop := ∃ i : Int, e = .returned (.int .i64 i) ∧ (badB hs = true → 0 ≤ i) ∧ (badB hs = false → i = -1) ∧ Below w.heap.size w w'
set_option maxRecDepth 100000 in
set_option maxHeartbeats 1000000 in
theorem badIdx_any (A : Option Addr) (n c : Nat) (hs : List Hv) (w : World) (h : EvsAt w w.heap.size A n hs) (hn : n ≤ 1000000) :
    Calls Try.prog 49 #[.slice A n c, .func (.func 34) #[] #[]] w (badTo w hs) := by
  have HH := Lib.hid h
  have HL := Lib.hid h.len
  clear h
  go_enter Try.func49, Try.ntmps49
  go_wp2
  go_loopw [8] (fun x wr => ∃ j : Nat, j ≤ n ∧ x = .int .i64 j ∧ Below w.heap.size w wr ∧ badB (hs.take j) = false) (fun x _ => n - (intOf x).toNat)
  case atStart => exact ⟨0, Nat.zero_le _, rfl, Below.refl _ _, rfl⟩
  case round =>
    obtain ⟨j, hj, rfl, hb, hno⟩ := hrel
    by_cases hlt : j < n
    · have hjl : j < hs.length := by rw [HL.out]; exact hlt
      have hok := HH.out.ok _ (hnth_mem hjl)
      obtain ⟨b, o, rfl, hbw, c0, c1, c2, c3, c4, c5⟩ := (HH.out.below hb).at_ hlt
      have hj0 : (0 : Int) ≤ (j : Int) := Int.natCast_nonneg _
      have hj1 : (j : Int) < (n : Int) := by omega
      have hC := fun W => bad_any (hnth hs j) W hok.key
      have hstep : badB (hs.take (j + 1)) = !validE (hnth hs j).e := by
        unfold badB at hno ⊢
        rw [List.take_succ_eq_append_getElem hjl, List.any_append, hno, hnth_eq hjl]; simp
      have hall : validE (hnth hs j).e = false → badB hs = true := fun e => by
        unfold badB
        rw [List.any_eq_true]
        exact ⟨_, hnth_mem hjl, by rw [e]; rfl⟩
      unfold Hv.v at hC
      have HC := Lib.hid hC
      have HST := Lib.hid hstep
      have HALL := Lib.hid hall
      have HB := Lib.hid hb
      clear hC hstep hall hb hno hok
      generalize hnth hs j = h at *
      cases hv : validE h.e with
      | true =>
        rw [hv] at HC HST
        clear hv HALL
        go_wp2_with fail
        refine (HC.out _).mono ?_
        rintro e w1 ⟨rfl, hb1⟩
        have HB1 := Lib.hid (HB.out.trans (hb1.mono HB.out.size))
        clear hb1
        go_wp2
        go_roundw
        case rel => exact ⟨j + 1, by omega, by go_num, HB1.out, HST.out⟩
        case measure => simp [intOf]; omega
      | false =>
        rw [hv] at HC
        have HA := Lib.hid (HALL.out hv)
        clear hv HALL
        go_wp2_with fail
        refine (HC.out _).mono ?_
        rintro e w1 ⟨rfl, hb1⟩
        have HB1 := Lib.hid (HB.out.trans (hb1.mono HB.out.size))
        clear hb1
        go_wp2
        go_ret
        exact ⟨_, rfl, fun _ => by omega, (fun e => by rw [HA.out] at e; cases e), HB1.out⟩
    · rw [List.take_of_length_le (by rw [HL.out]; omega)] at hno
      have HNO := Lib.hid hno
      have HB := Lib.hid hb
      clear hno hb
      go_wp2
      go_ret
      exact ⟨_, rfl, (fun e => by rw [HNO.out] at e; cases e), fun _ => rfl, HB.out⟩
set_option maxHeartbeats 1000000 in
theorem badAny_any (A : Option Addr) (n c : Nat) (hs : List Hv) (w : World) (h : EvsAt w w.heap.size A n hs) (hn : n ≤ 1000000) :
    Calls Try.prog 33 #[.slice A n c, .func (.func 34) #[] #[]] w fun e w' => e = .returned (.bool (badB hs)) ∧ Below w.heap.size w w' := by
  have HI := Lib.hid (badIdx_any A n c hs w h hn)
  clear h
  cases hbad : badB hs with
  | true =>
    have HBD := Lib.hid hbad
    clear hbad
    go_enter Try.func33, Try.ntmps33
    go_wp2_with fail
    refine HI.out.mono ?_
    rintro e w1 ⟨i, rfl, h1, _, hb⟩
    have hi := h1 HBD.out
    have HB := Lib.hid hb
    clear h1 hb
    go_wp2
    go_ret
    exact ⟨rfl, HB.out⟩
  | false =>
    have HBD := Lib.hid hbad
    clear hbad
    go_enter Try.func33, Try.ntmps33
    go_wp2_with fail
    refine HI.out.mono ?_
    rintro e w1 ⟨i, rfl, _, h1, hb⟩
    have hi := h1 HBD.out
    subst hi
    have HB := Lib.hid hb
    clear h1 hb
    go_wp2
    go_ret
    exact ⟨rfl, HB.out⟩
end Go.Proofs.Ytfimgkjdfjlkhaa
