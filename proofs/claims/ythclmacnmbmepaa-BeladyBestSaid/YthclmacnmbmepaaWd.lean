import Derived.Test.YthclmacnmbmepaaWc
import Derived.Deep.RegionHeld3
import Derived.Deep.DeepCutAuto
import Derived.KernelRfl
namespace Go.Proofs.Ythclmacnmbmepaa
open Go.RowKit Bel

def pcells (ps : List (Int × Int)) : List Value := ps.flatMap fun p => [.int .u32 p.1, .int .i64 p.2]
def pnth (ps : List (Int × Int)) (j : Nat) : Int × Int := ps.getD j (0, 0)
def pkey (ps : List (Int × Int)) (j : Nat) : Int := (pnth ps j).1
def pnext (ps : List (Int × Int)) (j : Nat) : Int := (pnth ps j).2
theorem pnth_eq {ps : List (Int × Int)} {j : Nat} (h : j < ps.length) : pnth ps j = ps[j] := by unfold pnth; rw [List.getD, List.getElem?_eq_getElem h]; rfl
theorem pcells_len (ps : List (Int × Int)) : (pcells ps).length = ps.length * 2 := by
  induction ps with
  | nil => rfl
  | cons t ps ih => simp only [pcells, List.flatMap_cons] at *; simp [ih]; omega
theorem pcells_at (ps : List (Int × Int)) : ∀ j, j < ps.length → (pcells ps)[j * 2]? = some (.int .u32 (pkey ps j)) ∧ (pcells ps)[j * 2 + 1]? = some (.int .i64 (pnext ps j)) := by
  induction ps with
  | nil => intro j h; simp at h
  | cons t ps ih =>
    intro j h
    have e : pcells (t :: ps) = .int .u32 t.1 :: .int .i64 t.2 :: pcells ps := by simp [pcells]
    rw [e]
    cases j with
    | zero => exact ⟨rfl, rfl⟩
    | succ j =>
      have := ih j (by simpa using h)
      have ht : pkey (t :: ps) (j + 1) = pkey ps j := rfl
      have ht' : pnext (t :: ps) (j + 1) = pnext ps j := rfl
      rw [ht, ht', Nat.add_mul]
      exact this
theorem Reads.place_len {w : World} {B n : Nat} {A : Option Addr} {ps : List (Int × Int)} (h : Reads w B 2 A n (pcells ps)) : ps.length = n := by
  have := h.1; rw [pcells_len] at this; omega
theorem Reads.place_at {w : World} {B n : Nat} {A : Option Addr} {ps : List (Int × Int)} {j : Nat} (h : Reads w B 2 A n (pcells ps)) (hj : j < n) :
    ∃ b o : Nat, A = some ⟨b, o, none⟩ ∧ b < B ∧ w.cell? ⟨b, o + j * 2, none⟩ = some (.int .u32 (pkey ps j)) ∧ w.cell? ⟨b, o + j * 2 + 1, none⟩ = some (.int .i64 (pnext ps j)) := by
  have hl := h.place_len
  obtain ⟨ad, e, hb, hc⟩ := h.2 (by omega)
  obtain ⟨h0, h1⟩ := pcells_at ps j (by omega)
  have c0 := hc _ _ h0
  have c1 := hc _ _ h1
  have hs : ad.spot = none := by
    have := (pcells_at ps 0 (by omega)).1
    have := spot_of_cell (hc _ _ this)
    unfold Addr.add at this; simpa using this
  rw [add_spot _ _ hs] at c0 c1
  obtain ⟨b, o, s⟩ := ad
  simp only at hs
  subst hs
  exact ⟨b, o, e, hb, c0, c1⟩

/-- The closure that asks for a key. -/
theorem asks_any (k x key : Int) (kb : Nat) (w : World) (hk : w.cell? ⟨kb, 0, none⟩ = some (.int .u32 key)) :
    Calls Try.prog 33 #[.agg #[.int .u32 k, .int .i64 x], .pointer (some ⟨kb, 0, none⟩)] w fun e w' => e = .returned (.bool (k == key)) ∧ Below w.heap.size w w' := by
  have hlt := World.block_lt_of_cell? w _ hk
  simp only at hlt
  go_enter Try.func33, Try.ntmps33
  go_wp2
  go_ret
  exact ⟨rfl, (Below.refl _ _).alloc (Nat.le_refl _) _⟩

set_option maxHeartbeats 400000 in
/-- slices.IndexFunc with that closure. -/
theorem indexFunc_any (A : Option Addr) (n c : Nat) (ps : List (Int × Int)) (key : Int) (kb : Nat) (w : World) (h : Reads w w.heap.size 2 A n (pcells ps)) (hk : w.cell? ⟨kb, 0, none⟩ = some (.int .u32 key)) (hn : n ≤ 1000000) :
    Calls Try.prog 32 #[.slice A n c, .func (.func 33) #[] #[.pointer (some ⟨kb, 0, none⟩)]] w fun e w' => Below w.heap.size w w' ∧
      ((e = .returned (.int .i64 (-1)) ∧ ∀ i, i < n → pkey ps i ≠ key) ∨ ∃ j : Nat, j < n ∧ pkey ps j = key ∧ e = .returned (.int .i64 j) ∧ ∀ i, i < j → pkey ps i ≠ key) := by
  have HK := Lib.hid hk
  have hlt := World.block_lt_of_cell? w _ hk
  simp only at hlt
  clear hk
  go_enter Try.func32, Try.ntmps32
  go_wp2
  go_loopw [8] (fun x wr => Below w.heap.size w wr ∧ ∃ j : Nat, j ≤ n ∧ x = .int .i64 j ∧ ∀ i, i < j → pkey ps i ≠ key) (fun x _ => n - (intOf x).toNat)
  case atStart => exact ⟨Below.refl _ _, 0, Nat.zero_le _, rfl, fun i hi => by omega⟩
  case round =>
    obtain ⟨hb, j, hj, rfl, he⟩ := hrel
    have HE := Lib.hid he
    clear he
    by_cases hlt' : j < n
    · obtain ⟨b, o, rfl, _, h0, h1⟩ := (h.below hb).place_at hlt'
      have hkr : wr.cell? ⟨kb, 0, none⟩ = some (.int .u32 key) := (hb.cell (p := ⟨kb, 0, none⟩) hlt).trans HK.out
      have HA := Lib.hid (asks_any (pkey ps j) (pnext ps j) key kb wr hkr)
      clear hkr
      cases hq : (pkey ps j == key) with
      | true =>
        have HQ : Hid (pkey ps j = key) := by have := hq; simp at this; exact this
        rw [hq] at HA
        clear hq
        go_wp2_with (go_at_call 33; refine (HA.out).mono ?_; rintro e w' ⟨rfl, hb'⟩)
        go_ret
        exact ⟨hb.trans (hb'.mono hb.size), .inr ⟨j, hlt', HQ.out, rfl, HE.out⟩⟩
      | false =>
        have HQ : Hid (pkey ps j ≠ key) := by have := hq; simp at this; exact this
        rw [hq] at HA
        clear hq
        go_wp2_with (go_at_call 33; refine (HA.out).mono ?_; rintro e w' ⟨rfl, hb'⟩)
        go_roundw
        case rel => exact ⟨hb.trans (hb'.mono hb.size), j + 1, by omega, by go_num, fun i hi => by
          rcases Nat.lt_succ_iff_lt_or_eq.1 hi with h1 | h1
          · exact HE.out i h1
          · rw [h1]; exact HQ.out⟩
        case measure => simp [intOf]; omega
    · go_wp2
      go_ret
      exact ⟨hb, .inl ⟨rfl, fun i hi => HE.out i (by omega)⟩⟩

/-- cmp.Compare. -/
def cmpI (x y : Int) : Int := if x < y then -1 else if y < x then 1 else 0
theorem compare_int (x y : Int) (w : World) : Calls Try.prog 46 #[.int .i64 x, .int .i64 y] w fun e w' => e = .returned (.int .i64 (cmpI x y)) ∧ w = w' := by
  have hx : (x != x) = false := by simp
  have hy : (y != y) = false := by simp
  by_cases h1 : x < y
  · go_enter Try.func46, Try.ntmps46
    go_wp2
    go_ret
    exact ⟨ret_int (by simp [cmpI, h1]), rfl⟩
  · by_cases h2 : y < x
    · go_enter Try.func46, Try.ntmps46
      go_wp2
      go_ret
      exact ⟨ret_int (by simp [cmpI, h1, h2]), rfl⟩
    · go_enter Try.func46, Try.ntmps46
      go_wp2
      go_ret
      exact ⟨ret_int (by simp [cmpI]; omega), rfl⟩
theorem compare_u32 (x y : Int) (w : World) : Calls Try.prog 47 #[.int .u32 x, .int .u32 y] w fun e w' => e = .returned (.int .i64 (cmpI x y)) ∧ w = w' := by
  have hx : (x != x) = false := by simp
  have hy : (y != y) = false := by simp
  by_cases h1 : x < y
  · go_enter Try.func47, Try.ntmps47
    go_wp2
    go_ret
    exact ⟨ret_int (by simp [cmpI, h1]), rfl⟩
  · by_cases h2 : y < x
    · go_enter Try.func47, Try.ntmps47
      go_wp2
      go_ret
      exact ⟨ret_int (by simp [cmpI, h1, h2]), rfl⟩
    · go_enter Try.func47, Try.ntmps47
      go_wp2
      go_ret
      exact ⟨ret_int (by simp [cmpI]; omega), rfl⟩

/-- cmp.Or of two numbers. -/
def orI (x y : Int) : Int := if x = 0 then y else x
theorem or_two (b c : Nat) (x y : Int) (w : World) (hx : w.cell? ⟨b, 0, none⟩ = some (.int .i64 x)) (hy : w.cell? ⟨b, 1, none⟩ = some (.int .i64 y)) :
    Calls Try.prog 45 #[.slice (some ⟨b, 0, none⟩) 2 c] w fun e w' => e = .returned (.int .i64 (orI x y)) ∧ w = w' := by
  go_enter Try.func45, Try.ntmps45
  go_wp2
  go_loop [8] (fun u => ∃ j : Nat, u = .int .i64 j ∧ ((j = 0) ∨ (j = 1 ∧ x = 0) ∨ (j = 2 ∧ x = 0 ∧ y = 0))) (fun u => 2 - (intOf u).toNat)
  case atStart => exact ⟨0, rfl, .inl rfl⟩
  case round =>
    obtain ⟨j, rfl, rfl | ⟨rfl, hz⟩ | ⟨rfl, hz, hz'⟩⟩ := hrel
    · by_cases h0 : x = 0
      · have hb : (x != 0) = false := by simpa using h0
        have H0 := Lib.hid h0
        clear h0
        go_wp2
        go_round
        case rel => exact ⟨1, rfl, .inr (.inl ⟨rfl, H0.out⟩)⟩
        case measure => simp [intOf]
      · have hb : (x != 0) = true := by simpa using h0
        have H0 := Lib.hid h0
        clear h0
        go_wp2
        go_ret
        exact ⟨ret_int (by rw [orI, if_neg H0.out]), rfl⟩
    · have HZ := Lib.hid hz
      clear hz
      by_cases h0 : y = 0
      · have hb : (y != 0) = false := by simpa using h0
        have H0 := Lib.hid h0
        clear h0
        go_wp2
        go_round
        case rel => exact ⟨2, rfl, .inr (.inr ⟨rfl, HZ.out, H0.out⟩)⟩
        case measure => simp [intOf]
      · have hb : (y != 0) = true := by simpa using h0
        have H0 := Lib.hid h0
        clear h0
        go_wp2
        go_ret
        exact ⟨ret_int (by rw [orI, if_pos HZ.out]), rfl⟩
    · have HZ := Lib.hid hz
      have HZ' := Lib.hid hz'
      clear hz hz'
      go_wp2
      go_ret
      exact ⟨ret_int (by rw [orI, if_pos HZ.out, HZ'.out]), rfl⟩

/-- 'later': below 0 where the first one leaves first. -/
def laterI (k x k' x' : Int) : Int := orI (cmpI x' x) (cmpI k k')
theorem laterI_neg (k x k' x' : Int) : laterI k x k' x' < 0 ↔ x' < x ∨ (x' = x ∧ k < k') := by
  unfold laterI orI cmpI
  split <;> (repeat' split) <;> omega
set_option maxHeartbeats 400000 in
theorem later_any (k x k' x' : Int) (w : World) :
    Calls Try.prog 35 #[.agg #[.int .u32 k, .int .i64 x], .agg #[.int .u32 k', .int .i64 x']] w fun e w' => e = .returned (.int .i64 (laterI k x k' x')) ∧ Below w.heap.size w w' := by
  go_enter Try.func35, Try.ntmps35
  go_wp2_with fail
  go_region_held3 (fun w' => w'.cell? ⟨w.heap.size, 0, none⟩ = some (.int .u32 k) ∧ w'.cell? ⟨w.heap.size, 1, none⟩ = some (.int .i64 x) ∧ w'.cell? ⟨w.heap.size + 1, 0, none⟩ = some (.int .u32 k') ∧ w'.cell? ⟨w.heap.size + 1, 1, none⟩ = some (.int .i64 x'))
    (go_keep)
    (first
      | (go_at_call 46; refine (compare_int _ _ _).mono ?_; rintro e w' ⟨rfl, rfl⟩)
      | (go_at_call 47; refine (compare_u32 _ _ _).mono ?_; rintro e w' ⟨rfl, rfl⟩)
      | (go_at_call 45; refine (or_two (w.heap.size + 2) 2 (cmpI x' x) (cmpI k k') _ ?_ ?_).mono ?_; go_simp; go_simp; rintro e w' ⟨rfl, rfl⟩))
  go_wp2
  go_ret
  exact ⟨rfl, ((((Below.refl _ w).alloc (Nat.le_refl _) _).alloc (by simp) _).alloc (by simp; omega) _).drew⟩

end Go.Proofs.Ythclmacnmbmepaa
