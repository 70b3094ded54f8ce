/- Whether two events are equal. -/
import Derived.Test.YtfimgkjdfjlkhaaMn
import Derived.Laws.IdiomStrings
namespace Go.Proofs.Ytfimgkjdfjlkhaa
open Go.RowKit Go.Deep Go.Maps

/-- The string of some bytes. -/
def strOf (xs : List Int) : ByteArray := xs.foldl (fun r n => r.push (UInt8.ofNat n.toNat)) ByteArray.empty
theorem conv_reads {w : World} {B c : Nat} {A : Option Addr} {xs : List Int} (h : Reads w B 1 A xs.length (ints .u8 xs)) : (convert 26 9 (.slice A xs.length c)).run Try.prog w = .ok (.string (strOf xs)) w := by
  rw [run_convert_bytes_string w 26 9 5 A xs.length c Try.underlying26 Try.underlying5 Try.underlying9]
  cases A with
  | none =>
    have : xs = [] := by
      cases xs with
      | nil => rfl
      | cons x xs =>
        obtain ⟨ad, e, _⟩ := h.2 (by simp)
        cases e
    subst this
    rfl
  | some a =>
    refine run_bytesToString w a xs.length c xs ?_
    have hl := run_loadCells_list (P := Try.prog) w a (ints .u8 xs) (fun j v hj => ?_)
    · simp only [ints, List.length_map] at hl
      exact hl
    · have hj' : j < xs.length := by
        have := (List.getElem?_eq_some_iff.1 hj).1
        simpa [ints] using this
      obtain ⟨ad, e, _, hc⟩ := h.2 (by omega)
      injection e with e
      subst e
      exact hc j v hj
theorem bytesEqual_any (A A' : Option Addr) (c c' : Nat) (xs ys : List Int) (w : World) (B : Nat) (h : Reads w B 1 A xs.length (ints .u8 xs)) (h' : Reads w B 1 A' ys.length (ints .u8 ys)) :
    Calls Try.prog 41 #[.slice A xs.length c, .slice A' ys.length c'] w fun e w' => e = .returned (.bool ((strOf xs).toList == (strOf ys).toList)) ∧ w = w' := by
  have h1 := conv_reads (c := c) h
  have h2 := conv_reads (c := c') h'
  clear h h'
  go_enter Try.func41, Try.ntmps41
  go_wp2
  go_ret
  exact ⟨rfl, rfl⟩
/-- Equality of events, as the code finds it. -/
def eqE (a b : Ev) : Bool := a.kind == b.kind && (a.key.toList == b.key.toList && ((strOf a.val).toList == (strOf b.val).toList && (a.birth == b.birth && (a.due == b.due && a.at_ == b.at_))))
theorem eqE_self (a : Ev) : eqE a a = true := by simp [eqE]
set_option maxHeartbeats 1000000 in
theorem equal_any (x y : Hv) (w : World) (h : x.Ok w w.heap.size) (h' : y.Ok w w.heap.size) :
    Calls Try.prog 20 #[x.v, y.v] w fun e w' => e = .returned (.bool (eqE x.e y.e)) ∧ Below w.heap.size w w' := by
  obtain ⟨⟨kd, key, val, birth, due, at_⟩, A, c⟩ := x
  obtain ⟨⟨kd', key', val', birth', due', at_'⟩, A', c'⟩ := y
  have hb := (Below.refl _ w).alloc (Nat.le_refl _) (.cells #[.int .i64 kd, .string key, .slice A val.length c, .int .u64 birth, .int .u64 due, .int .u64 at_] 30)
  have hb2 := hb.alloc hb.size (.cells #[.int .i64 kd', .string key', .slice A' val'.length c', .int .u64 birth', .int .u64 due', .int .u64 at_'] 30)
  have HQ := Lib.hid (bytesEqual_any A A' c c' val val' _ _ (h.below hb2).val (h'.below hb2).val)
  have HB := Lib.hid (fun (u v : Array Value) => ((Below.refl _ w).alloc (Nat.le_refl _) (.cells u 30)).alloc (by simp) (.cells v 30))
  clear h h' hb hb2
  unfold eqE
  simp only [Hv.v] at HQ ⊢
  generalize ((strOf val).toList == (strOf val').toList) = q at *
  by_cases h1 : (kd == kd') = true
  · by_cases h2 : (key.toList == key'.toList) = true
    · go_enter Try.func20, Try.ntmps20
      go_wp2_with fail
      refine HQ.out.mono ?_
      rintro e w' ⟨rfl, rfl⟩
      cases q with
      | false =>
        go_wp2
        go_ret
        exact ⟨ret_bool (by simp), HB.out _ _⟩
      | true =>
        go_wp2
        all_goals
          go_ret
          exact ⟨ret_bool (by simp [*]), HB.out _ _⟩
    · rw [Bool.not_eq_true] at h2
      go_enter Try.func20, Try.ntmps20
      go_wp2
      go_ret
      exact ⟨ret_bool (by simp [*]), HB.out _ _⟩
  · rw [Bool.not_eq_true] at h1
    go_enter Try.func20, Try.ntmps20
    go_wp2
    go_ret
    exact ⟨ret_bool (by simp [*]), HB.out _ _⟩
end Go.Proofs.Ytfimgkjdfjlkhaa
