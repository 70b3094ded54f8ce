/- The leaves: prefixes, kinds, deadlines, what a valid event is. No condition. -/
import Derived.Test.YtfimgkjdfjlkhaaChecked
import Derived.Test.YtfimgkjdfjlkhaaBb
import Derived.Deep.RegionHeld3
import Derived.Deep.QuietTactic
namespace Go.Proofs.Ytfimgkjdfjlkhaa
open Go.RowKit

def pre (s p : ByteArray) : Bool := decide (p.size ≤ s.size) && ((s.extract 0 p.size).toList == p.toList)
theorem prefix47 (s p : ByteArray) (w : World) : Calls Try.prog 47 #[.string s, .string p] w fun e w' => e = .returned (.bool (pre s p)) ∧ w = w' := by
  by_cases h1 : p.size ≤ s.size
  · have e : pre s p = ((s.extract 0 p.size).toList == p.toList) := by unfold pre; simp [h1]
    have HE := Lib.hid e
    clear e
    go_enter Try.func47, Try.ntmps47
    go_wp2
    go_ret
    exact ⟨ret_bool HE.out.symm, rfl⟩
  · have e : pre s p = false := by unfold pre; simp [h1]
    have HE := Lib.hid e
    clear e
    go_enter Try.func47, Try.ntmps47
    go_wp2
    go_ret
    exact ⟨ret_bool HE.out.symm, rfl⟩
theorem prefix_any (s p : ByteArray) (w : World) : Calls Try.prog 31 #[.string s, .string p] w fun e w' => e = .returned (.bool (pre s p)) ∧ w = w' := by
  have HP := Lib.hid (fun w => prefix47 s p w)
  go_enter Try.func31, Try.ntmps31
  go_wp2_with fail
  refine (HP.out _).mono ?_
  rintro e w' ⟨rfl, rfl⟩
  go_wp2
  go_ret
  exact ⟨rfl, rfl⟩

/-- The first place that holds a number, or -1. -/
def idxI (l : List Int) (k : Int) : Int := if k ∈ l then l.idxOf k else -1
set_option maxHeartbeats 400000 in
theorem index_any (A : Option Addr) (n c : Nat) (k : Int) (zs : List Int) (w : World) (B : Nat) (h : Reads w B 1 A n (ints .i64 zs)) (hn : n ≤ 1000000) :
    Calls Try.prog 48 #[.slice A n c, .int .i64 k] w fun e w' => e = .returned (.int .i64 (idxI zs k)) ∧ w = w' := by
  have HL := Lib.hid h.int_len
  go_enter Try.func48, Try.ntmps48
  go_wp2
  go_loop [8] (fun x => ∃ j : Nat, j ≤ n ∧ x = .int .i64 j ∧ k ∉ zs.take j) (fun x => n - (intOf x).toNat)
  case atStart => exact ⟨0, Nat.zero_le _, rfl, by simp⟩
  case round =>
    obtain ⟨j, hj, rfl, hno⟩ := hrel
    have HNO := Lib.hid hno
    clear hno
    by_cases hlt : j < n
    · obtain ⟨b, o, rfl, _, hc⟩ := h.int_at hlt
      have hj0 : (0 : Int) ≤ (j : Int) := Int.natCast_nonneg _
      have hj1 : (j : Int) < (n : Int) := by omega
      have hjz : j < zs.length := by rw [HL.out]; exact hlt
      by_cases hk : k = nth zs j
      · have HI : Hid (idxI zs k = j) := by
          have hm : k ∈ zs := by rw [hk]; exact nth_mem hjz
          refine Lib.hid ?_
          unfold idxI
          rw [if_pos hm]
          have h1 : zs.idxOf k = j := by
            have e : zs = zs.take j ++ k :: zs.drop (j + 1) := by
              rw [hk, nth_eq hjz, ← List.drop_eq_getElem_cons hjz, List.take_append_drop]
            have hl : (zs.take j).length = j := by simp; omega
            rw [e, List.idxOf_append, if_neg HNO.out, List.idxOf_cons_self, hl]; omega
          rw [h1]
        rw [← hk] at hc
        have hb : (k == k) = true := by simp
        clear hk
        go_wp2
        go_ret
        exact ⟨ret_int (by rw [HI.out]), rfl⟩
      · have hb : (k == nth zs j) = false := by simpa using hk
        have HK := Lib.hid hk
        clear hk
        go_wp2
        go_round
        case rel =>
          refine ⟨j + 1, by omega, by go_num, fun hm => ?_⟩
          rw [List.take_succ_eq_append_getElem hjz, List.mem_append] at hm
          rcases hm with hm | hm
          · exact HNO.out hm
          · rw [List.mem_singleton, ← nth_eq hjz] at hm; exact HK.out hm
        case measure => simp [intOf]; omega
    · have HI : Hid (idxI zs k = -1) := by
        refine Lib.hid ?_
        unfold idxI
        have := HNO.out
        rw [List.take_of_length_le (by rw [HL.out]; omega)] at this
        rw [if_neg this]
      go_wp2
      go_ret
      exact ⟨ret_int (by rw [HI.out]), rfl⟩
def memB (zs : List Int) (k : Int) : Bool := decide (k ∈ zs)
theorem contains_any (A : Option Addr) (n c : Nat) (k : Int) (zs : List Int) (w : World) (B : Nat) (h : Reads w B 1 A n (ints .i64 zs)) (hn : n ≤ 1000000) :
    Calls Try.prog 32 #[.slice A n c, .int .i64 k] w fun e w' => e = .returned (.bool (memB zs k)) ∧ w = w' := by
  have HI := Lib.hid (fun w' => index_any A n c k zs w' B)
  by_cases hk : k ∈ zs
  · have e : idxI zs k = (zs.idxOf k : Int) := by unfold idxI; rw [if_pos hk]
    have HX := Lib.hid (index_any A n c k zs w B h hn)
    rw [e] at HX
    have HE : Hid (memB zs k = true) := Lib.hid (by unfold memB; simpa using hk)
    have h0 : (0 : Int) ≤ (zs.idxOf k : Int) := Int.natCast_nonneg _
    clear hk e h HI
    go_enter Try.func32, Try.ntmps32
    go_wp2_with fail
    refine HX.out.mono ?_
    rintro e w' ⟨rfl, rfl⟩
    go_wp2
    go_ret
    exact ⟨ret_bool HE.out.symm, rfl⟩
  · have e : idxI zs k = -1 := by unfold idxI; rw [if_neg hk]
    have HX := Lib.hid (index_any A n c k zs w B h hn)
    rw [e] at HX
    have HE : Hid (memB zs k = false) := Lib.hid (by unfold memB; simpa using hk)
    clear hk e h HI
    go_enter Try.func32, Try.ntmps32
    go_wp2_with fail
    refine HX.out.mono ?_
    rintro e w' ⟨rfl, rfl⟩
    go_wp2
    go_ret
    exact ⟨ret_bool HE.out.symm, rfl⟩

def kindB (k : Int) : Bool := decide (1 ≤ k ∧ k ≤ 5)
theorem kind_any (k : Int) (w : World) : Calls Try.prog 50 #[.int .i64 k] w fun e w' => e = .returned (.bool (kindB k)) ∧ w = w' := by
  by_cases h1 : 1 ≤ k
  · by_cases h2 : k < 6
    · have HE : Hid (kindB k = true) := Lib.hid (by unfold kindB; simp; omega)
      go_enter Try.func50, Try.ntmps50
      go_wp2
      go_ret
      exact ⟨ret_bool HE.out.symm, rfl⟩
    · have HE : Hid (kindB k = false) := Lib.hid (by unfold kindB; simp; omega)
      go_enter Try.func50, Try.ntmps50
      go_wp2
      go_ret
      exact ⟨ret_bool HE.out.symm, rfl⟩
  · have HE : Hid (kindB k = false) := Lib.hid (by unfold kindB; simp; omega)
    go_enter Try.func50, Try.ntmps50
    go_wp2
    go_ret
    exact ⟨ret_bool HE.out.symm, rfl⟩
def never : Int := 18446744073709551615
def dueB (d t : Int) : Bool := decide (d ≠ never ∧ d ≤ t)
theorem due_any (d t : Int) (w : World) : Calls Try.prog 53 #[.int .u64 d, .int .u64 t] w fun e w' => e = .returned (.bool (dueB d t)) ∧ w = w' := by
  by_cases h1 : d = never
  · have HE : Hid (dueB d t = false) := Lib.hid (by unfold dueB; simp [h1])
    have hb : (d != 18446744073709551615) = false := by rw [h1]; rfl
    clear h1
    go_enter Try.func53, Try.ntmps53
    go_wp2
    go_ret
    exact ⟨ret_bool HE.out.symm, rfl⟩
  · have hb : (d != 18446744073709551615) = true := by simpa [never] using h1
    by_cases h2 : d ≤ t
    · have HE : Hid (dueB d t = true) := Lib.hid (by unfold dueB; simp [h1, h2])
      clear h1
      go_enter Try.func53, Try.ntmps53
      go_wp2
      go_ret
      exact ⟨ret_bool HE.out.symm, rfl⟩
    · have HE : Hid (dueB d t = false) := Lib.hid (by unfold dueB; simp [h2])
      clear h1
      go_enter Try.func53, Try.ntmps53
      go_wp2
      go_ret
      exact ⟨ret_bool HE.out.symm, rfl⟩
def keyB (n : Nat) : Bool := decide (0 < n ∧ n ≤ 250)
theorem validKey_any (s : ByteArray) (w : World) (hs : s.size ≤ maxLen) : Calls Try.prog 64 #[.string s] w fun e w' => e = .returned (.bool (keyB s.size)) ∧ w = w' := by
  unfold maxLen at hs
  by_cases h1 : 0 < s.size
  · have h1' : (0 : Int) < (s.size : Int) := by omega
    by_cases h2 : s.size ≤ 250
    · have h2' : (s.size : Int) ≤ 250 := by omega
      have HE : Hid (keyB s.size = true) := Lib.hid (by unfold keyB; simp; omega)
      go_enter Try.func64, Try.ntmps64
      go_wp2
      go_ret
      exact ⟨ret_bool HE.out.symm, rfl⟩
    · have h2' : ¬ (s.size : Int) ≤ 250 := by omega
      have HE : Hid (keyB s.size = false) := Lib.hid (by unfold keyB; simp; omega)
      go_enter Try.func64, Try.ntmps64
      go_wp2
      go_ret
      exact ⟨ret_bool HE.out.symm, rfl⟩
  · have h1' : ¬ (0 : Int) < (s.size : Int) := by omega
    have HE : Hid (keyB s.size = false) := Lib.hid (by unfold keyB; simp; omega)
    go_enter Try.func64, Try.ntmps64
    go_wp2
    go_ret
    exact ⟨ret_bool HE.out.symm, rfl⟩
end Go.Proofs.Ytfimgkjdfjlkhaa
