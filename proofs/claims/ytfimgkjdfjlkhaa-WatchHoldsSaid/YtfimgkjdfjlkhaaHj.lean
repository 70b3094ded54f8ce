/- Does an event fit a rule? As the code finds it, and as the law's own words find it. At most a million kinds. -/
import Derived.Test.YtfimgkjdfjlkhaaHi
namespace Go.Proofs.Ytfimgkjdfjlkhaa
open Go.RowKit Go.Deep

/-- A rule that comes in: its room may be any number. -/
structure Ri where
  pre : ByteArray
  kinds : List Int
  room : Int
  oldest : Bool
  kA : Option Addr
  kc : Nat
def Rl.toRi (r : Rl) : Ri := ⟨r.pre, r.kinds, r.room, r.oldest, r.kA, r.kc⟩
def Ri.v (r : Ri) : Value := .agg #[.string r.pre, .slice r.kA r.kinds.length r.kc, .int .i64 r.room, .bool r.oldest]
/-- The kinds of a rule in memory. -/
def KindsAt (w : World) (r : Ri) : Prop := r.kinds.length = 0 ∨ Reads w w.heap.size 1 r.kA r.kinds.length (ints .i64 r.kinds)
def fitsB (p : ByteArray) (kinds : List Int) (key : ByteArray) (kind : Int) : Bool := pre key p && (decide (kinds.length = 0) || memB kinds kind)
def Ri.fits (r : Ri) (e : Ev) : Bool := fitsB r.pre r.kinds e.key e.kind
set_option maxRecDepth 100000 in
set_option maxHeartbeats 1000000 in
theorem fits_any (r : Ri) (h : Hv) (w : World) (hk : KindsAt w r) (hn : r.kinds.length ≤ 1000000) :
    Calls Try.prog 9 #[r.v, h.v] w fun e w' => e = .returned (.bool (r.fits h.e)) ∧ Below w.heap.size w w' := by
  obtain ⟨p, kinds, room, oldest, kA, kc⟩ := r
  obtain ⟨⟨kd, key, val, birth, due, at_⟩, A, c⟩ := h
  have HE : Hid (Ri.fits ⟨p, kinds, room, oldest, kA, kc⟩ ⟨kd, key, val, birth, due, at_⟩ = (pre key p && (decide (kinds.length = 0) || memB kinds kd))) := Lib.hid rfl
  have HP := Lib.hid (fun w => prefix_any key p w)
  simp only at hn
  unfold Ri.v Hv.v
  simp only
  generalize Ri.fits ⟨p, kinds, room, oldest, kA, kc⟩ ⟨kd, key, val, birth, due, at_⟩ = res at *
  cases hp : pre key p with
  | false =>
    rw [hp] at HE HP
    clear hp hk
    go_enter Try.func9, Try.ntmps9
    go_wp2_with fail
    refine (HP.out _).mono ?_
    rintro e w' ⟨rfl, rfl⟩
    go_wp2
    go_ret
    exact ⟨ret_bool (by rw [HE.out]; rfl), ((Below.refl _ w).alloc (Nat.le_refl _) _).alloc (by simp) _⟩
  | true =>
    rw [hp] at HE HP
    clear hp
    by_cases h0 : kinds.length = 0
    · have h0' : (kinds.length : Int) = 0 := by omega
      have h0b : ((kinds.length : Int) == 0) = true := by simp [h0]
      have hd : decide (kinds.length = 0) = true := by simpa using h0
      rw [hd] at HE
      clear hd hk h0
      go_enter Try.func9, Try.ntmps9
      go_wp2_with fail
      refine (HP.out _).mono ?_
      rintro e w' ⟨rfl, rfl⟩
      go_wp2
      go_ret
      exact ⟨ret_bool (by rw [HE.out]; rfl), ((Below.refl _ w).alloc (Nat.le_refl _) _).alloc (by simp) _⟩
    · have h0' : ¬ (kinds.length : Int) = 0 := by omega
      have h0b : ((kinds.length : Int) == 0) = false := by rw [beq_eq_false_iff_ne]; omega
      have hd : decide (kinds.length = 0) = false := by simpa using h0
      rw [hd] at HE
      have hr : Reads w w.heap.size 1 kA kinds.length (ints .i64 kinds) := hk.resolve_left h0
      have hc := contains_any kA kinds.length kc kd kinds ((w.alloc (.cells #[.string p, .slice kA kinds.length kc, .int .i64 room, .bool oldest] 24)).alloc (.cells #[.int .i64 kd, .string key, .slice A val.length c, .int .u64 birth, .int .u64 due, .int .u64 at_] 30)) _ ((hr.alloc (Nat.le_refl _) _).alloc (by simp) _) hn
      have HC := Lib.hid hc
      clear hd hk h0 hr hc
      go_enter Try.func9, Try.ntmps9
      go_wp2_with fail
      refine (HP.out _).mono ?_
      rintro e w' ⟨rfl, rfl⟩
      go_wp2_with fail
      refine (HC.out).mono ?_
      rintro e w' ⟨rfl, rfl⟩
      go_wp2
      go_ret
      exact ⟨ret_bool (by rw [HE.out]; rfl), ((Below.refl _ w).alloc (Nat.le_refl _) _).alloc (by simp) _⟩

end Go.Proofs.Ytfimgkjdfjlkhaa
