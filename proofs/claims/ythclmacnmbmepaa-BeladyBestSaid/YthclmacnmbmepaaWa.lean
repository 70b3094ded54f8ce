import Derived.Test.YthclmacnmbmepaaChecked
import Derived.Test.YthclmacnmbmepaaBase
import Derived.Test.YthclmacnmbmepaaOpt
import Derived.WalkKit
import Derived.WalkLawsBesides
import Derived.WalkSpells
import Derived.Outline
namespace Go.Proofs.Ythclmacnmbmepaa
open Go.RowKit

theorem ret_int {k : IntKind} {a b : Int} (h : a = b) : Ending.returned (.int k a) = .returned (.int k b) := by rw [h]

/-- A list of whole numbers as values. -/
def ints (k : IntKind) (zs : List Int) : List Value := zs.map (Value.int k)

/-- The number at a place of a list; closed to simp. -/
def nth (zs : List Int) (j : Nat) : Int := zs.getD j 0
theorem nth_eq {zs : List Int} {j : Nat} (h : j < zs.length) : nth zs j = zs[j] := by unfold nth; rw [List.getD, List.getElem?_eq_getElem h]; rfl
theorem nth_mem {zs : List Int} {j : Nat} (h : j < zs.length) : nth zs j ∈ zs := by rw [nth_eq h]; exact List.getElem_mem h

theorem spot_of_cell {w : World} {a : Addr} {v : Value} (h : w.cell? a = some v) : a.spot = none := by
  unfold World.cell? at h
  cases hs : a.spot with
  | none => rfl
  | some x =>
    rw [hs] at h
    split at h
    · simp at h
    · cases h
theorem add_spot (a : Addr) (n : Nat) (h : a.spot = none) : a.add n = ⟨a.block, a.off + n, none⟩ := by
  unfold Addr.add
  obtain ⟨b, o, s⟩ := a
  subst h
  split
  · rename_i e; subst e; rfl
  · rfl
theorem Reads.int_at {w : World} {B n : Nat} {A : Option Addr} {k : IntKind} {zs : List Int} {j : Nat} (h : Reads w B 1 A n (ints k zs)) (hj : j < n) :
    ∃ b o : Nat, A = some ⟨b, o, none⟩ ∧ b < B ∧ w.cell? ⟨b, o + j, none⟩ = some (.int k (nth zs j)) := by
  obtain ⟨ad, u, e, hb, hx, hc⟩ := h.at_ hj
  have hs : ad.spot = none := by
    obtain ⟨ad', u', e', _, _, hc'⟩ := h.at_ (k := 0) (by omega)
    rw [e] at e'; injection e' with e'; subst e'
    have := spot_of_cell hc'
    unfold Addr.add at this; simpa using this
  rw [add_spot _ _ hs] at hc
  obtain ⟨b, o, s⟩ := ad
  simp only at hs
  subst hs
  refine ⟨b, o, e, hb, ?_⟩
  rw [hc]
  unfold ints at hx
  rw [List.getElem?_map] at hx
  rw [nth, List.getD]
  cases hz : zs[j]? with
  | none => rw [hz] at hx; cases hx
  | some z => rw [hz] at hx; simpa using hx.symm
theorem Reads.int_len {w : World} {B n : Nat} {A : Option Addr} {k : IntKind} {zs : List Int} (h : Reads w B 1 A n (ints k zs)) : zs.length = n := by
  have := h.1; unfold ints at this; simpa using this

/-- The first place from 'i' on that holds 'k', or the length. -/
def nxt (tr : List Int) (i : Nat) (k : Int) : Nat := i + (tr.drop i).idxOf k
theorem nxt_hit {tr : List Int} {i : Nat} {k : Int} (hi : i < tr.length) (h : nth tr i = k) : nxt tr i k = i := by
  unfold nxt
  rw [nth_eq hi] at h
  rw [List.drop_eq_getElem_cons hi, h]
  simp
theorem nxt_miss {tr : List Int} {i : Nat} {k : Int} (hi : i < tr.length) (h : nth tr i ≠ k) : nxt tr i k = nxt tr (i + 1) k := by
  unfold nxt
  rw [nth_eq hi] at h
  have hb : (tr[i] == k) = false := by simpa using h
  rw [List.drop_eq_getElem_cons hi, List.idxOf_cons, hb]
  simp; omega
theorem nxt_end {tr : List Int} {i : Nat} {k : Int} (hi : tr.length ≤ i) : nxt tr i k = i := by
  unfold nxt; rw [List.drop_eq_nil_of_le hi]; simp

set_option maxHeartbeats 400000 in
/-- 'next' of the reference. -/
theorem next_any (A : Option Addr) (n c i : Nat) (k : Int) (tr : List Int) (w : World) (B : Nat) (h : Reads w B 1 A n (ints .u32 tr)) (hn : n ≤ 1000000) (hi : i ≤ n) :
    Calls Try.prog 31 #[.slice A n c, .int .i64 i, .int .u32 k] w fun e w' => e = .returned (.int .i64 (nxt tr i k)) ∧ w = w' := by
  have hl := h.int_len
  have HL := Lib.hid hl
  clear hl
  go_enter Try.func31, Try.ntmps31
  go_wp2
  go_loop [7] (fun x => ∃ j : Nat, j ≤ n ∧ x = .int .i64 j ∧ nxt tr i k = nxt tr j k) (fun x => n - (intOf x).toNat)
  case atStart => exact ⟨i, hi, rfl, rfl⟩
  case round =>
    obtain ⟨j, hj, rfl, he⟩ := hrel
    have HE := Lib.hid he
    clear he
    by_cases hlt : j < n
    · obtain ⟨b, o, rfl, _, hc⟩ := h.int_at hlt
      by_cases hk : nth tr j = k
      · have hb : (nth tr j == k) = true := by simpa using hk
        have HK := Lib.hid hk
        clear hk
        go_wp2
        go_ret
        exact ⟨ret_int (by rw [HE.out, nxt_hit (by rw [HL.out]; exact hlt) HK.out]), rfl⟩
      · have hb : (nth tr j == k) = false := by simpa using hk
        go_wp2
        go_round
        case rel => exact ⟨j + 1, by omega, by go_num, by rw [HE.out, nxt_miss (by rw [HL.out]; exact hlt) hk]⟩
        case measure => simp [intOf]; omega
    · go_wp2
      go_ret
      exact ⟨ret_int (by rw [HE.out, nxt_end (by rw [HL.out]; omega)]; omega), rfl⟩
end Go.Proofs.Ythclmacnmbmepaa
