/- watch.valid, as the code finds it. At most a million kinds. -/
import Derived.Test.YtfimgkjdfjlkhaaMa
import Derived.Laws.BitsAllLaws
import Derived.Laws.ShiftsVarLaws
namespace Go.Proofs.Ytfimgkjdfjlkhaa
open Go.RowKit Go.Deep

def kindsOk (l : List Int) : Bool := decide (∀ k ∈ l, 1 ≤ k ∧ k ≤ 5) && decide l.Nodup
def validRi (r : Ri) : Bool := kindsOk r.kinds && (decide (r.pre.size ≤ 250) && decide (1 ≤ r.room) && decide (r.room ≤ 1000))
theorem and_bit (s K P : Nat) (hP : P = 2 ^ K) (hs : s < 64) : bits .and .u64 ((s : Int) / (P : Int)) 1 = if s.testBit K = true then 1 else 0 := by
  have h1 : ((s : Int) / (P : Int)) = ((s / P : Nat) : Int) := by push_cast; rfl
  have hle : s / P ≤ s := Nat.div_le_self _ _
  have h2 := u64_and_nat (s / P) 1 (by omega) (by omega)
  rw [h1]
  have h3 : bits .and .u64 ((s / P : Nat) : Int) 1 = ((s / P &&& 1 : Nat) : Int) := h2
  rw [h3, Nat.and_one_is_mod, hP, Nat.testBit_eq_decide_div_mod_eq]
  have := Nat.mod_two_eq_zero_or_one (s / 2 ^ K)
  rcases this with e | e <;> simp [e]
theorem or_bit (s P : Nat) (hs : s < 64) (hP : P < 64) : bits .or .u64 (s : Int) (P : Int) = ((s ||| P : Nat) : Int) := u64_or_nat s P (by omega) (by omega)
theorem bad_dup {kinds : List Int} {j : Nat} {k : Int} (hlt : j < kinds.length) (hk : nth kinds j = k) (hm : k ∈ kinds.take j) : kindsOk kinds = false := by
  unfold kindsOk
  have : ¬ kinds.Nodup := fun hn => by
    have e : kinds = kinds.take j ++ kinds[j] :: kinds.drop (j + 1) := by rw [← List.drop_eq_getElem_cons hlt, List.take_append_drop]
    rw [e] at hn
    have := (List.nodup_append.1 hn).2.2 _ hm _ (List.mem_cons_self ..)
    rw [nth_eq hlt] at hk
    exact this hk.symm
  simp [this]
theorem bad_range {kinds : List Int} {j : Nat} {k : Int} (hlt : j < kinds.length) (hk : nth kinds j = k) (hr : k < 1 ∨ 5 < k) : kindsOk kinds = false := by
  unfold kindsOk
  have : ¬ ∀ k ∈ kinds, 1 ≤ k ∧ k ≤ 5 := fun h => by
    have := h _ (nth_mem hlt)
    rw [hk] at this
    omega
  simp [this]
theorem good_step {kinds : List Int} {j s K : Nat} {k : Int} (hlt : j < kinds.length) (hk : nth kinds j = k) (hok : kindsOk (kinds.take j) = true) (hs : s < 64) (hbit : ∀ i : Nat, s.testBit i = true ↔ (i : Int) ∈ kinds.take j)
    (h1 : 1 ≤ K) (h2 : K ≤ 5) (hKk : k = (K : Int)) (htb : s.testBit K = false) : kindsOk (kinds.take (j + 1)) = true ∧ s ||| 2 ^ K < 64 ∧ ∀ i : Nat, (s ||| 2 ^ K).testBit i = true ↔ (i : Int) ∈ kinds.take (j + 1) := by
  rw [List.take_succ_eq_append_getElem hlt, ← nth_eq hlt, hk, hKk]
  unfold kindsOk at hok ⊢
  rw [Bool.and_eq_true, decide_eq_true_iff, decide_eq_true_iff] at hok
  have hni : (K : Int) ∉ kinds.take j := fun e => by rw [(hbit K).2 e] at htb; cases htb
  refine ⟨?_, ?_, fun i => ?_⟩
  · rw [Bool.and_eq_true, decide_eq_true_iff, decide_eq_true_iff]
    refine ⟨fun x hx => ?_, ?_⟩
    · rcases List.mem_append.1 hx with hx | hx
      · exact hok.1 x hx
      · simp only [List.mem_singleton] at hx; omega
    · exact (List.perm_append_singleton (K : Int) (kinds.take j)).nodup_iff.2 (by simp [hok.2, hni])
  · have : (2 : Nat) ^ K < 2 ^ 6 := Nat.pow_lt_pow_right (by omega) (by omega)
    exact Nat.or_lt_two_pow (n := 6) hs this
  · rw [Nat.testBit_or, Nat.testBit_two_pow, List.mem_append, List.mem_singleton, Bool.or_eq_true, hbit i, decide_eq_true_iff]
    constructor
    · rintro (e | e)
      · exact Or.inl e
      · exact Or.inr (by omega)
    · rintro (e | e)
      · exact Or.inl e
      · exact Or.inr (by omega)
set_option maxRecDepth 100000 in
set_option maxHeartbeats 4000000 in
theorem valid_rule (r : Ri) (w : World) (hk : KindsAt w r) (hn : r.kinds.length ≤ 1000000) :
    Calls Try.prog 37 #[r.v] w fun e w' => e = .returned (.bool (validRi r)) ∧ Below w.heap.size w w' := by
  obtain ⟨p, kinds, room, oldest, kA, kc⟩ := r
  simp only at hn
  have HKD := Lib.hid hk
  have HW := Lib.hid (show Below w.heap.size w (w.alloc (.cells #[.string p, .slice kA kinds.length kc, .int .i64 room, .bool oldest] 24)) from (Below.refl _ w).alloc (Nat.le_refl _) _)
  have HK0 := Lib.hid (Blk.new w 24 #[.string p, .slice kA kinds.length kc, .int .i64 room, .bool oldest])
  unfold Ri.v
  simp only
  clear hk
  go_enter Try.func37, Try.ntmps37
  go_wp2
  generalize w.alloc (.cells #[.string p, .slice kA kinds.length kc, .int .i64 room, .bool oldest] 24) = W0 at *
  go_loopw [3, 9] (fun y x wr => ∃ (j s : Nat), j ≤ kinds.length ∧ s < 64 ∧ x = .int .i64 j ∧ y = .int .u64 s ∧ wr = W0 ∧ kindsOk (kinds.take j) = true ∧ ∀ i : Nat, s.testBit i = true ↔ (i : Int) ∈ kinds.take j) (fun _ x _ => kinds.length - (intOf x).toNat)
  case atStart => exact ⟨0, 0, Nat.zero_le _, by omega, rfl, rfl, rfl, rfl, by simp⟩
  case round =>
    obtain ⟨j, s, hj, hs, rfl, rfl, rfl, hok, hbit⟩ := hrel
    have HB := Lib.hid HW.out
    by_cases hlt : j < kinds.length
    · have hr := HKD.out.resolve_left (show ¬ kinds.length = 0 by omega)
      obtain ⟨bK, oK, hA, hbk, hck⟩ := (hr.below HW.out).int_at hlt
      simp only at hA
      subst hA
      have hj0 : (0 : Int) ≤ (j : Int) := Int.natCast_nonneg _
      have hj1 : (j : Int) < (kinds.length : Int) := by omega
      obtain ⟨k, hke⟩ : ∃ k, nth kinds j = k := ⟨_, rfl⟩
      rw [hke] at hck
      have HKE := Lib.hid hke
      clear hke hr
      by_cases h1 : k < 1
      · have HBAD := Lib.hid (bad_range hlt HKE.out (Or.inl h1))
        clear hbit hok
        go_wp2
        go_ret
        exact ⟨ret_bool (by unfold validRi; simp only; rw [HBAD.out]; simp), HB.out⟩
      · by_cases h5 : 5 < k
        · have HBAD := Lib.hid (bad_range hlt HKE.out (Or.inr h5))
          clear hbit hok
          go_wp2
          go_ret
          exact ⟨ret_bool (by unfold validRi; simp only; rw [HBAD.out]; simp), HB.out⟩
        · have hc : k = 1 ∨ k = 2 ∨ k = 3 ∨ k = 4 ∨ k = 5 := by omega
          clear h1 h5
          rcases hc with rfl | rfl | rfl | rfl | rfl
          · have hand : bits .and .u64 ((s : Int) / 2) 1 = if s.testBit 1 = true then 1 else 0 := and_bit s 1 2 rfl hs
            have hor : bits .or .u64 (s : Int) 2 = ((s ||| 2 : Nat) : Int) := or_bit s 2 (by omega) (by omega)
            cases htb : s.testBit 1 with
            | true =>
              rw [htb] at hand
              simp only [if_true] at hand
              have hbad : kindsOk kinds = false := bad_dup hlt HKE.out (by have := (hbit 1).1 htb; simpa using this)
              have HBAD := Lib.hid hbad
              clear hbad hbit hor htb
              go_wp2
              go_ret
              exact ⟨ret_bool (by unfold validRi; simp only; rw [HBAD.out]; simp), HB.out⟩
            | false =>
              rw [htb] at hand
              simp only [Bool.false_eq_true, if_false] at hand
              have hnew := good_step hlt HKE.out hok hs hbit (K := 1) (by omega) (by omega) rfl htb
              have HNEW := Lib.hid hnew
              clear hbit htb hok hnew
              go_wp2
              go_roundw
              case rel => exact ⟨j + 1, s ||| 2, by omega, HNEW.out.2.1, by go_num, rfl, trivial, HNEW.out.1, HNEW.out.2.2⟩
              case measure => simp [intOf]; omega
          · have hand : bits .and .u64 ((s : Int) / 4) 1 = if s.testBit 2 = true then 1 else 0 := and_bit s 2 4 rfl hs
            have hor : bits .or .u64 (s : Int) 4 = ((s ||| 4 : Nat) : Int) := or_bit s 4 (by omega) (by omega)
            cases htb : s.testBit 2 with
            | true =>
              rw [htb] at hand
              simp only [if_true] at hand
              have hbad : kindsOk kinds = false := bad_dup hlt HKE.out (by have := (hbit 2).1 htb; simpa using this)
              have HBAD := Lib.hid hbad
              clear hbad hbit hor htb
              go_wp2
              go_ret
              exact ⟨ret_bool (by unfold validRi; simp only; rw [HBAD.out]; simp), HB.out⟩
            | false =>
              rw [htb] at hand
              simp only [Bool.false_eq_true, if_false] at hand
              have hnew := good_step hlt HKE.out hok hs hbit (K := 2) (by omega) (by omega) rfl htb
              have HNEW := Lib.hid hnew
              clear hbit htb hok hnew
              go_wp2
              go_roundw
              case rel => exact ⟨j + 1, s ||| 4, by omega, HNEW.out.2.1, by go_num, rfl, trivial, HNEW.out.1, HNEW.out.2.2⟩
              case measure => simp [intOf]; omega
          · have hand : bits .and .u64 ((s : Int) / 8) 1 = if s.testBit 3 = true then 1 else 0 := and_bit s 3 8 rfl hs
            have hor : bits .or .u64 (s : Int) 8 = ((s ||| 8 : Nat) : Int) := or_bit s 8 (by omega) (by omega)
            cases htb : s.testBit 3 with
            | true =>
              rw [htb] at hand
              simp only [if_true] at hand
              have hbad : kindsOk kinds = false := bad_dup hlt HKE.out (by have := (hbit 3).1 htb; simpa using this)
              have HBAD := Lib.hid hbad
              clear hbad hbit hor htb
              go_wp2
              go_ret
              exact ⟨ret_bool (by unfold validRi; simp only; rw [HBAD.out]; simp), HB.out⟩
            | false =>
              rw [htb] at hand
              simp only [Bool.false_eq_true, if_false] at hand
              have hnew := good_step hlt HKE.out hok hs hbit (K := 3) (by omega) (by omega) rfl htb
              have HNEW := Lib.hid hnew
              clear hbit htb hok hnew
              go_wp2
              go_roundw
              case rel => exact ⟨j + 1, s ||| 8, by omega, HNEW.out.2.1, by go_num, rfl, trivial, HNEW.out.1, HNEW.out.2.2⟩
              case measure => simp [intOf]; omega
          · have hand : bits .and .u64 ((s : Int) / 16) 1 = if s.testBit 4 = true then 1 else 0 := and_bit s 4 16 rfl hs
            have hor : bits .or .u64 (s : Int) 16 = ((s ||| 16 : Nat) : Int) := or_bit s 16 (by omega) (by omega)
            cases htb : s.testBit 4 with
            | true =>
              rw [htb] at hand
              simp only [if_true] at hand
              have hbad : kindsOk kinds = false := bad_dup hlt HKE.out (by have := (hbit 4).1 htb; simpa using this)
              have HBAD := Lib.hid hbad
              clear hbad hbit hor htb
              go_wp2
              go_ret
              exact ⟨ret_bool (by unfold validRi; simp only; rw [HBAD.out]; simp), HB.out⟩
            | false =>
              rw [htb] at hand
              simp only [Bool.false_eq_true, if_false] at hand
              have hnew := good_step hlt HKE.out hok hs hbit (K := 4) (by omega) (by omega) rfl htb
              have HNEW := Lib.hid hnew
              clear hbit htb hok hnew
              go_wp2
              go_roundw
              case rel => exact ⟨j + 1, s ||| 16, by omega, HNEW.out.2.1, by go_num, rfl, trivial, HNEW.out.1, HNEW.out.2.2⟩
              case measure => simp [intOf]; omega
          · have hand : bits .and .u64 ((s : Int) / 32) 1 = if s.testBit 5 = true then 1 else 0 := and_bit s 5 32 rfl hs
            have hor : bits .or .u64 (s : Int) 32 = ((s ||| 32 : Nat) : Int) := or_bit s 32 (by omega) (by omega)
            cases htb : s.testBit 5 with
            | true =>
              rw [htb] at hand
              simp only [if_true] at hand
              have hbad : kindsOk kinds = false := bad_dup hlt HKE.out (by have := (hbit 5).1 htb; simpa using this)
              have HBAD := Lib.hid hbad
              clear hbad hbit hor htb
              go_wp2
              go_ret
              exact ⟨ret_bool (by unfold validRi; simp only; rw [HBAD.out]; simp), HB.out⟩
            | false =>
              rw [htb] at hand
              simp only [Bool.false_eq_true, if_false] at hand
              have hnew := good_step hlt HKE.out hok hs hbit (K := 5) (by omega) (by omega) rfl htb
              have HNEW := Lib.hid hnew
              clear hbit htb hok hnew
              go_wp2
              go_roundw
              case rel => exact ⟨j + 1, s ||| 32, by omega, HNEW.out.2.1, by go_num, rfl, trivial, HNEW.out.1, HNEW.out.2.2⟩
              case measure => simp [intOf]; omega
    · have hnl : ¬ ((j : Int) < (kinds.length : Int)) := by omega
      rw [List.take_of_length_le (by omega)] at hok
      have HOK := Lib.hid hok
      have c0 := HK0.out.cell 0
      have c2 := HK0.out.cell 2
      simp only [List.getElem?_toArray, List.getElem?_cons_zero, List.getElem?_cons_succ] at c0 c2
      clear hok hbit
      by_cases hp : p.size ≤ 250
      · have hp' : (p.size : Int) ≤ 250 := by omega
        by_cases h1 : 1 ≤ room
        · by_cases h2 : room ≤ 1000
          · go_wp2
            go_ret
            exact ⟨ret_bool (by unfold validRi; simp only; rw [HOK.out]; simp [hp, h1, h2]), HB.out⟩
          · go_wp2
            go_ret
            exact ⟨ret_bool (by unfold validRi; simp only; rw [HOK.out]; simp; omega), HB.out⟩
        · go_wp2
          go_ret
          exact ⟨ret_bool (by unfold validRi; simp only; rw [HOK.out]; simp; omega), HB.out⟩
      · have hp' : ¬ (p.size : Int) ≤ 250 := by omega
        go_wp2
        go_ret
        exact ⟨ret_bool (by unfold validRi; simp only; rw [HOK.out]; simp [hp]), HB.out⟩
end Go.Proofs.Ytfimgkjdfjlkhaa
