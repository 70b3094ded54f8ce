import Derived.Test.YthclmacnmbmepaaWa
import Derived.BigQuiet
import Derived.Deep.QuietTactic
namespace Go.Proofs.Ythclmacnmbmepaa
open Go.RowKit Bel

def tcells (ts : List Turn) : List Value := ts.flatMap fun t => [.bool t.hit, .bool t.left, .int .u32 t.out]
def tnth (ts : List Turn) (j : Nat) : Turn := ts.getD j ⟨false, false, 0⟩
theorem tnth_eq {ts : List Turn} {j : Nat} (h : j < ts.length) : tnth ts j = ts[j] := by unfold tnth; rw [List.getD, List.getElem?_eq_getElem h]; rfl
theorem tcells_len (ts : List Turn) : (tcells ts).length = ts.length * 3 := by
  induction ts with
  | nil => rfl
  | cons t ts ih => simp only [tcells, List.flatMap_cons] at *; simp [ih]; omega
theorem tcells_at (ts : List Turn) : ∀ j, j < ts.length → (tcells ts)[j * 3]? = some (.bool (tnth ts j).hit) ∧ (tcells ts)[j * 3 + 1]? = some (.bool (tnth ts j).left) ∧ (tcells ts)[j * 3 + 2]? = some (.int .u32 (tnth ts j).out) := by
  induction ts with
  | nil => intro j h; simp at h
  | cons t ts ih =>
    intro j h
    have e : tcells (t :: ts) = .bool t.hit :: .bool t.left :: .int .u32 t.out :: tcells ts := by simp [tcells]
    rw [e]
    cases j with
    | zero => exact ⟨rfl, rfl, rfl⟩
    | succ j =>
      have := ih j (by simpa using h)
      have ht : tnth (t :: ts) (j + 1) = tnth ts j := rfl
      rw [ht, Nat.add_mul]
      exact this
theorem Reads.turn_len {w : World} {B n : Nat} {A : Option Addr} {ts : List Turn} (h : Reads w B 3 A n (tcells ts)) : ts.length = n := by
  have := h.1; rw [tcells_len] at this; omega
theorem Reads.turn_at {w : World} {B n : Nat} {A : Option Addr} {ts : List Turn} {j : Nat} (h : Reads w B 3 A n (tcells ts)) (hj : j < n) :
    ∃ b o : Nat, A = some ⟨b, o, none⟩ ∧ b < B ∧ w.cell? ⟨b, o + j * 3, none⟩ = some (.bool (tnth ts j).hit) ∧ w.cell? ⟨b, o + j * 3 + 1, none⟩ = some (.bool (tnth ts j).left) ∧ w.cell? ⟨b, o + j * 3 + 2, none⟩ = some (.int .u32 (tnth ts j).out) := by
  have hl := h.turn_len
  obtain ⟨ad, e, hb, hc⟩ := h.2 (by omega)
  obtain ⟨h0, h1, h2⟩ := tcells_at ts j (by omega)
  have c0 := hc _ _ h0
  have c1 := hc _ _ h1
  have c2 := hc _ _ h2
  have hs : ad.spot = none := by
    have := (tcells_at ts 0 (by omega)).1
    have := spot_of_cell (hc _ _ this)
    unfold Addr.add at this; simpa using this
  rw [add_spot _ _ hs] at c0 c1 c2
  obtain ⟨b, o, s⟩ := ad
  simp only at hs
  subst hs
  exact ⟨b, o, e, hb, c0, c1, c2⟩

theorem ret_bool {a b : Bool} (h : a = b) : Ending.returned (.bool a) = .returned (.bool b) := by rw [h]

/-- How many of the first turns are hits. -/
def hitsTo (ts : List Turn) (j : Nat) : Nat := hits (ts.take j)
theorem hitsTo_zero (ts : List Turn) : hitsTo ts 0 = 0 := rfl
theorem hitsTo_all {ts : List Turn} {j : Nat} (h : ts.length ≤ j) : hitsTo ts j = hits ts := by unfold hitsTo; rw [List.take_of_length_le h]
theorem hitsTo_succ {ts : List Turn} {j : Nat} (h : j < ts.length) : hitsTo ts (j + 1) = hitsTo ts j + if (tnth ts j).hit then 1 else 0 := by
  unfold hitsTo hits
  rw [List.take_succ_eq_append_getElem h, List.countP_append, tnth_eq h]
  simp [List.countP_cons]
theorem hitsTo_le (ts : List Turn) (j : Nat) : hitsTo ts j ≤ j := by
  unfold hitsTo hits
  exact Nat.le_trans List.countP_le_length (List.length_take_le _ _)
theorem hitsTo_yes {ts : List Turn} {j : Nat} (h : j < ts.length) (hh : (tnth ts j).hit = true) : hitsTo ts (j + 1) = hitsTo ts j + 1 := by rw [hitsTo_succ h, hh]; rfl
theorem hitsTo_no {ts : List Turn} {j : Nat} (h : j < ts.length) (hh : (tnth ts j).hit = false) : hitsTo ts (j + 1) = hitsTo ts j := by rw [hitsTo_succ h, hh]; rfl

set_option maxHeartbeats 400000 in
/-- 'Hits' of the reference. -/
theorem rhits_any (A : Option Addr) (n c : Nat) (ts : List Turn) (w : World) (B : Nat) (h : Reads w B 3 A n (tcells ts)) (hn : n ≤ 1000000) :
    Calls Try.prog 18 #[.slice A n c] w fun e w' => e = .returned (.int .i64 (hits ts)) ∧ w = w' := by
  have HL := Lib.hid h.turn_len
  go_enter Try.func18, Try.ntmps18
  go_wp2
  go_loop [3, 4] (fun y x => ∃ j : Nat, j ≤ n ∧ x = .int .i64 j ∧ y = .int .i64 (hitsTo ts j)) (fun _ x => n - (intOf x).toNat)
  case atStart => exact ⟨0, Nat.zero_le _, rfl, rfl⟩
  case round =>
    obtain ⟨j, hj, rfl, rfl⟩ := hrel
    have hle := hitsTo_le ts j
    by_cases hlt : j < n
    · obtain ⟨b, o, rfl, _, h0, _, _⟩ := h.turn_at hlt
      cases hh : (tnth ts j).hit with
      | true =>
        have HH := Lib.hid hh
        rw [hh] at h0
        clear hh
        go_wp2
        go_round
        case rel => exact ⟨j + 1, by omega, by go_num, by rw [hitsTo_yes (by rw [HL.out]; exact hlt) HH.out]; go_num⟩
        case measure => simp [intOf]; omega
      | false =>
        have HH := Lib.hid hh
        rw [hh] at h0
        clear hh
        go_wp2
        go_round
        case rel => exact ⟨j + 1, by omega, by go_num, by rw [hitsTo_no (by rw [HL.out]; exact hlt) HH.out]⟩
        case measure => simp [intOf]; omega
    · go_wp2
      go_ret
      exact ⟨ret_int (by rw [hitsTo_all (by rw [HL.out]; omega)]), rfl⟩

set_option maxHeartbeats 400000 in
/-- 'count' of the program. -/
theorem count_any (A : Option Addr) (n c : Nat) (ts : List Turn) (w : World) (h : Reads w w.heap.size 3 A n (tcells ts)) (hn : n ≤ 1000000) :
    Calls Try.prog 38 #[.slice A n c] w fun e w' => e = .returned (.int .i64 (hits ts)) ∧ Below w.heap.size w w' := by
  have HL := Lib.hid h.turn_len
  go_enter Try.func38, Try.ntmps38
  go_wp2
  go_loopw [3, 8] (fun y x wr => Below w.heap.size w wr ∧ ∃ j : Nat, j ≤ n ∧ x = .int .i64 j ∧ y = .int .i64 (hitsTo ts j)) (fun _ x _ => n - (intOf x).toNat)
  case atStart => exact ⟨Below.refl _ _, 0, Nat.zero_le _, rfl, rfl⟩
  case round =>
    obtain ⟨hb, j, hj, rfl, rfl⟩ := hrel
    have hle := hitsTo_le ts j
    by_cases hlt : j < n
    · obtain ⟨b, o, rfl, _, h0, h1, h2⟩ := (h.below hb).turn_at hlt
      cases hh : (tnth ts j).hit with
      | true =>
        have HH := Lib.hid hh
        rw [hh] at h0
        clear hh
        go_wp2
        go_roundw
        case rel => exact ⟨(hb.alloc hb.size _), j + 1, by omega, by go_num, by rw [hitsTo_yes (by rw [HL.out]; exact hlt) HH.out]; go_num⟩
        case measure => simp [intOf]; omega
      | false =>
        have HH := Lib.hid hh
        rw [hh] at h0
        clear hh
        go_wp2
        go_roundw
        case rel => exact ⟨(hb.alloc hb.size _), j + 1, by omega, by go_num, by rw [hitsTo_no (by rw [HL.out]; exact hlt) HH.out]⟩
        case measure => simp [intOf]; omega
    · go_wp2
      go_ret
      exact ⟨ret_int (by rw [hitsTo_all (by rw [HL.out]; omega)]), hb⟩

set_option maxHeartbeats 400000 in
/-- 'has' of the reference. -/
theorem has_any (A : Option Addr) (n c : Nat) (k : Int) (zs : List Int) (w : World) (B : Nat) (h : Reads w B 1 A n (ints .u32 zs)) (hn : n ≤ 1000000) :
    Calls Try.prog 39 #[.slice A n c, .int .u32 k] w fun e w' => e = .returned (.bool (decide (k ∈ zs))) ∧ w = w' := by
  have HL := Lib.hid h.int_len
  go_enter Try.func39, Try.ntmps39
  go_wp2
  go_loop [5] (fun x => ∃ j : Nat, j ≤ n ∧ x = .int .i64 j ∧ nxt zs 0 k = nxt zs j k) (fun x => n - (intOf x).toNat)
  case atStart => exact ⟨0, Nat.zero_le _, rfl, rfl⟩
  case round =>
    obtain ⟨j, hj, rfl, he⟩ := hrel
    have HE := Lib.hid he
    clear he
    by_cases hlt : j < n
    · obtain ⟨b, o, rfl, _, hc⟩ := h.int_at hlt
      by_cases hk : nth zs j = k
      · have hb : (nth zs j == k) = true := by simpa using hk
        have HK := Lib.hid hk
        clear hk
        go_wp2
        go_ret
        exact ⟨ret_bool (by
          have hm := nth_mem (zs := zs) (j := j) (by rw [HL.out]; exact hlt)
          rw [HK.out] at hm
          simp [hm]), rfl⟩
      · have hb : (nth zs j == k) = false := by simpa using hk
        have HK := Lib.hid hk
        clear hk
        go_wp2
        go_round
        case rel => exact ⟨j + 1, by omega, by go_num, by rw [HE.out, nxt_miss (by rw [HL.out]; exact hlt) HK.out]⟩
        case measure => simp [intOf]; omega
    · go_wp2
      go_ret
      exact ⟨ret_bool (by
        have h1 := HE.out
        rw [nxt_end (i := j) (by rw [HL.out]; omega)] at h1
        have h2 : ¬ k ∈ zs := by
          intro hm
          have := List.idxOf_lt_length_of_mem hm
          have h3 := HL.out
          unfold nxt at h1; simp at h1; omega
        simp [h2]), rfl⟩

/-- 'Size' of the reference. -/
theorem size_any (s : Int) (w : World) :
    Calls Try.prog 15 #[.int .i64 s] w fun e w' => e = .returned (.bool (decide (1 ≤ s ∧ s ≤ 1024))) ∧ w = w' := by
  by_cases h1 : 1 ≤ s
  · by_cases h2 : s ≤ 1024
    · go_enter Try.func15, Try.ntmps15
      go_wp2
      go_ret
      exact ⟨ret_bool (by simp [h1, h2]), rfl⟩
    · have h2' : 1024 < s := by omega
      go_enter Try.func15, Try.ntmps15
      go_wp2
      go_ret
      exact ⟨ret_bool (by simp; omega), rfl⟩
  · have h1' : s < 1 := by omega
    go_enter Try.func15, Try.ntmps15
    go_wp2
    go_ret
    exact ⟨ret_bool (by simp; omega), rfl⟩

/-- 'gives' of the law. -/
theorem gives_any (n e want : Int) (w : World) :
    Calls Try.prog 21 #[.int .i64 n, .int .i64 e, .int .i64 want] w fun r w' => r = .returned (.bool (decide (n = want ∧ e = 0))) ∧ w = w' := by
  by_cases h1 : n = want
  · subst h1
    have hb : (n == n) = true := by simp
    by_cases h2 : e = 0
    · subst h2
      go_enter Try.func21, Try.ntmps21
      go_wp2
      go_ret
      exact ⟨ret_bool (by simp), rfl⟩
    · have h2b : (e == 0) = false := by simpa using h2
      have H2 := Lib.hid h2
      clear h2
      go_enter Try.func21, Try.ntmps21
      go_wp2
      go_ret
      exact ⟨ret_bool (by simp [H2.out]), rfl⟩
  · have h1b : (n == want) = false := by simpa using h1
    have H1 := Lib.hid h1
    clear h1
    go_enter Try.func21, Try.ntmps21
    go_wp2
    go_ret
    exact ⟨ret_bool (by simp [H1.out]), rfl⟩

/-- 'allowed': the error of a trace and a size. -/
def allowedE (n : Nat) (most size : Int) : Int := if most < (n : Int) then 5 else if size < 1 ∨ 1024 < size then 2 else 0
theorem allowed_any (a : Option Addr) (n c : Nat) (most size : Int) (w : World) :
    Calls Try.prog 29 #[.slice a n c, .int .i64 most, .int .i64 size] w fun e w' => e = .returned (.int .i64 (allowedE n most size)) ∧ w = w' := by
  by_cases h1 : most < (n : Int)
  · go_enter Try.func29, Try.ntmps29
    go_wp2
    go_ret
    exact ⟨ret_int (by simp [allowedE, h1]), rfl⟩
  · by_cases h2 : size < 1
    · go_enter Try.func29, Try.ntmps29
      go_wp2
      go_ret
      exact ⟨ret_int (by simp [allowedE, h1, h2]), rfl⟩
    · by_cases h3 : 1024 < size
      · go_enter Try.func29, Try.ntmps29
        go_wp2
        go_ret
        exact ⟨ret_int (by simp [allowedE, h1, h3]), rfl⟩
      · go_enter Try.func29, Try.ntmps29
        go_wp2
        go_ret
        exact ⟨ret_int (by simp [allowedE]; omega), rfl⟩
end Go.Proofs.Ythclmacnmbmepaa
