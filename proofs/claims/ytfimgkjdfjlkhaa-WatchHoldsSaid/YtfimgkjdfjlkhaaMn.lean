/- The law's helpers 'of' and 'expired'. -/
import Derived.Test.YtfimgkjdfjlkhaaMm
import Derived.Lib.ConvBytes
import Derived.Lib.SlBytesRow
namespace Go.Proofs.Ytfimgkjdfjlkhaa
open Go.RowKit Go.Deep Go.Maps

def bytesOf (s : ByteArray) : List Int := s.data.toList.map fun b => (b.toNat : Int)
theorem bytesOf_len (s : ByteArray) : (bytesOf s).length = s.size := by simp [bytesOf]
def madeTo (w : World) (E : Ev) (e : Ending) (w' : World) : Prop :=
  ∃ h : Hv, e = .returned h.v ∧ h.e = E ∧ h.Ok w' w'.heap.size ∧ Below w.heap.size w w' ∧ (∀ a, h.A = some a → w.heap.size ≤ a.block ∧ a.block < w'.heap.size)
theorem bytesWorld_below (w : World) (e : TypeId) (s : ByteArray) : Below w.heap.size w (Lib.bytesWorld w e s) :=
  ⟨rfl, rfl, rfl, by rw [Lib.bytesWorld_size]; omega, fun k hk => Lib.bytesWorld_at_old w e s k hk⟩
theorem bytesWorld_reads (w : World) (s : ByteArray) : Reads (Lib.bytesWorld w 5 s) (w.heap.size + 1) 1 (some ⟨w.heap.size, 0, none⟩) s.size (ints .u8 (bytesOf s)) := by
  refine ⟨by simp [ints, bytesOf], fun _ => ⟨_, rfl, by simp, fun j u hj => ?_⟩⟩
  unfold ints bytesOf at hj
  rw [List.getElem?_map, List.getElem?_map] at hj
  cases hx : s.data.toList[j]? with
  | none => rw [hx] at hj; cases hj
  | some x =>
    rw [hx] at hj
    have hl : j < s.size := by have := (List.getElem?_eq_some_iff.1 hx).1; simpa using this
    rw [add_spot _ _ rfl, Nat.zero_add, Lib.bytesWorld_cell w 5 s j hl]
    simp only [List.getD, hx] at hj ⊢
    exact hj
theorem Reads.set_far {w : World} {B size n : Nat} {ad : Addr} {xs : List Value} (h : Reads w B size (some ad) n xs) {p : Addr} (u : Value) (hp : ad.block ≠ p.block) : Reads (w.setCell p u) B size (some ad) n xs :=
  h.apart (Nat.le_refl _) (fun a ha q hq => cell_far (by injection ha with ha; subst ha; rw [hq]; exact hp) u)
def zcells : Array Value := #[.int .i64 0, .string ⟨#[]⟩, .slice none 0 0, .int .u64 0, .int .u64 0, .int .u64 0]
/-- The world behind the six stores. -/
theorem made_world (w : World) (key : ByteArray) (v0 v1 v2 v3 v4 v5 : Value) : ∃ Wf, Wf = ((((((Lib.bytesWorld (w.alloc (.cells zcells 30)) 5 key).setCell ⟨w.heap.size, 0, none⟩ v0).setCell ⟨w.heap.size, 1, none⟩ v1).setCell ⟨w.heap.size, 2, none⟩ v2).setCell ⟨w.heap.size, 3, none⟩ v3).setCell ⟨w.heap.size, 4, none⟩ v4).setCell ⟨w.heap.size, 5, none⟩ v5 ∧
    Blk Wf w.heap.size 30 #[v0, v1, v2, v3, v4, v5] ∧ Below w.heap.size w Wf ∧ Reads Wf Wf.heap.size 1 (some ⟨w.heap.size + 1, 0, none⟩) key.size (ints .u8 (bytesOf key)) ∧ w.heap.size + 1 < Wf.heap.size := by
  have hb := (Blk.new w 30 zcells).keep (w' := Lib.bytesWorld (w.alloc (.cells zcells 30)) 5 key) (Lib.bytesWorld_at_old _ 5 key _ (by simp))
  have hB : Below w.heap.size w (Lib.bytesWorld (w.alloc (.cells zcells 30)) 5 key) := ((Below.refl _ w).alloc (Nat.le_refl _) (.cells zcells 30)).trans ((bytesWorld_below _ 5 key).mono (by simp))
  have hr := bytesWorld_reads (w.alloc (.cells zcells 30)) key
  have hs := Lib.bytesWorld_size (w.alloc (.cells zcells 30)) 5 key
  rw [World.size_alloc] at hr hs
  generalize Lib.bytesWorld (w.alloc (.cells zcells 30)) 5 key = W1 at *
  refine ⟨_, rfl, ?_, ?_, ?_, ?_⟩
  · exact (((((hb.set_ 0 v0).set_ 1 v1).set_ 2 v2).set_ 3 v3).set_ 4 v4).set_ 5 v5
  · exact (((((hB.setCell (p := ⟨w.heap.size, 0, none⟩) (by simp) v0).setCell (p := ⟨w.heap.size, 1, none⟩) (by simp) v1).setCell (p := ⟨w.heap.size, 2, none⟩) (by simp) v2).setCell (p := ⟨w.heap.size, 3, none⟩) (by simp) v3).setCell (p := ⟨w.heap.size, 4, none⟩) (by simp) v4).setCell (p := ⟨w.heap.size, 5, none⟩) (by simp) v5
  · have h6 := (((((hr.set_far (p := ⟨w.heap.size, 0, none⟩) v0 (by simp)).set_far (p := ⟨w.heap.size, 1, none⟩) v1 (by simp)).set_far (p := ⟨w.heap.size, 2, none⟩) v2 (by simp)).set_far (p := ⟨w.heap.size, 3, none⟩) v3 (by simp)).set_far (p := ⟨w.heap.size, 4, none⟩) v4 (by simp)).set_far (p := ⟨w.heap.size, 5, none⟩) v5 (by simp)
    exact h6.more (by simp only [World.size_setCell]; omega)
  · simp only [World.size_setCell]; omega
set_option maxRecDepth 100000 in
set_option maxHeartbeats 1000000 in
theorem lawOf_any (key : ByteArray) (kd : Int) (w : World) (hk : key.size ≤ maxLen) :
    Calls Try.prog 12 #[.string key, .int .i64 kd] w (madeTo w ⟨kd, key, bytesOf key, 1, 18446744073709551615, 0⟩) := by
  have hcv := fun w => Lib.run_convert_string_bytes (P := Try.prog) w 9 26 5 key Try.underlying9 Try.underlying26 Try.underlying5
  have hb := (Blk.new w 30 #[.int .i64 0, .string ⟨#[]⟩, .slice none 0 0, .int .u64 0, .int .u64 0, .int .u64 0]).keep (w' := Lib.bytesWorld (w.alloc (.cells #[.int .i64 0, .string ⟨#[]⟩, .slice none 0 0, .int .u64 0, .int .u64 0, .int .u64 0] 30)) 5 key) (Lib.bytesWorld_at_old _ 5 key _ (by simp))
  have d0 := hb.cell 0
  have d1 := hb.cell 1
  have d2 := hb.cell 2
  have d3 := hb.cell 3
  have d4 := hb.cell 4
  have d5 := hb.cell 5
  have f0 := hb.frozen 0
  have f1 := hb.frozen 1
  have f2 := hb.frozen 2
  have f3 := hb.frozen 3
  have f4 := hb.frozen 4
  have f5 := hb.frozen 5
  clear hb
  go_enter Try.func12, Try.ntmps12
  go_wp2
  clear d0 d1 d2 d3 d4 d5 f0 f1 f2 f3 f4 f5 hcv
  obtain ⟨Wf, hWf, kf, hB, hR, hS⟩ := made_world w key (Value.int .i64 kd) (Value.string key) (Value.slice (some ⟨w.heap.size + 1, 0, none⟩) key.size (grownCap (w.alloc (.cells #[.int .i64 0, .string ⟨#[]⟩, .slice none 0 0, .int .u64 0, .int .u64 0, .int .u64 0] 30)) key.size 0 5)) (Value.int .u64 1) (Value.int .u64 18446744073709551615) (Value.int .u64 0)
  unfold zcells at hWf
  rw [← hWf]
  clear hWf
  generalize grownCap (w.alloc (.cells #[.int .i64 0, .string ⟨#[]⟩, .slice none 0 0, .int .u64 0, .int .u64 0, .int .u64 0] 30)) key.size 0 5 = cp at *
  have c0 := kf.cell 0
  have c1 := kf.cell 1
  have c2 := kf.cell 2
  have c3 := kf.cell 3
  have c4 := kf.cell 4
  have c5 := kf.cell 5
  simp at c0 c1 c2 c3 c4 c5
  refine bodyPost_ret (v := .agg #[Value.int .i64 kd, Value.string key, Value.slice (some ⟨w.heap.size + 1, 0, none⟩) key.size cp, Value.int .u64 1, Value.int .u64 18446744073709551615, Value.int .u64 0]) (by simp [results, Try.results12, go_sem, c0, c1, c2, c3, c4, c5]) rfl
    ⟨⟨⟨kd, key, bytesOf key, 1, 18446744073709551615, 0⟩, some ⟨w.heap.size + 1, 0, none⟩, cp⟩, ?_, rfl, ⟨by rw [bytesOf_len]; exact hR, hk, fun e => by cases e⟩, hB, fun a ha => by injection ha with ha; subst ha; exact ⟨Nat.le_succ _, hS⟩⟩
  unfold Hv.v
  rw [show (bytesOf key).length = key.size from bytesOf_len key]
set_option maxRecDepth 100000 in
set_option maxHeartbeats 1000000 in
theorem expired_any (key : ByteArray) (w : World) (hk : key.size ≤ maxLen) :
    Calls Try.prog 29 #[.string key] w (madeTo w ⟨1, key, bytesOf key, 2, 5, 5⟩) := by
  have hcv := fun w => Lib.run_convert_string_bytes (P := Try.prog) w 9 26 5 key Try.underlying9 Try.underlying26 Try.underlying5
  have hb := (Blk.new w 30 #[.int .i64 0, .string ⟨#[]⟩, .slice none 0 0, .int .u64 0, .int .u64 0, .int .u64 0]).keep (w' := Lib.bytesWorld (w.alloc (.cells #[.int .i64 0, .string ⟨#[]⟩, .slice none 0 0, .int .u64 0, .int .u64 0, .int .u64 0] 30)) 5 key) (Lib.bytesWorld_at_old _ 5 key _ (by simp))
  have d0 := hb.cell 0
  have d1 := hb.cell 1
  have d2 := hb.cell 2
  have d3 := hb.cell 3
  have d4 := hb.cell 4
  have d5 := hb.cell 5
  have f0 := hb.frozen 0
  have f1 := hb.frozen 1
  have f2 := hb.frozen 2
  have f3 := hb.frozen 3
  have f4 := hb.frozen 4
  have f5 := hb.frozen 5
  clear hb
  go_enter Try.func29, Try.ntmps29
  go_wp2
  clear d0 d1 d2 d3 d4 d5 f0 f1 f2 f3 f4 f5 hcv
  obtain ⟨Wf, hWf, kf, hB, hR, hS⟩ := made_world w key (Value.int .i64 1) (Value.string key) (Value.slice (some ⟨w.heap.size + 1, 0, none⟩) key.size (grownCap (w.alloc (.cells #[.int .i64 0, .string ⟨#[]⟩, .slice none 0 0, .int .u64 0, .int .u64 0, .int .u64 0] 30)) key.size 0 5)) (Value.int .u64 2) (Value.int .u64 5) (Value.int .u64 5)
  unfold zcells at hWf
  rw [← hWf]
  clear hWf
  generalize grownCap (w.alloc (.cells #[.int .i64 0, .string ⟨#[]⟩, .slice none 0 0, .int .u64 0, .int .u64 0, .int .u64 0] 30)) key.size 0 5 = cp at *
  have c0 := kf.cell 0
  have c1 := kf.cell 1
  have c2 := kf.cell 2
  have c3 := kf.cell 3
  have c4 := kf.cell 4
  have c5 := kf.cell 5
  simp at c0 c1 c2 c3 c4 c5
  refine bodyPost_ret (v := .agg #[Value.int .i64 1, Value.string key, Value.slice (some ⟨w.heap.size + 1, 0, none⟩) key.size cp, Value.int .u64 2, Value.int .u64 5, Value.int .u64 5]) (by simp [results, Try.results29, go_sem, c0, c1, c2, c3, c4, c5]) rfl
    ⟨⟨⟨1, key, bytesOf key, 2, 5, 5⟩, some ⟨w.heap.size + 1, 0, none⟩, cp⟩, ?_, rfl, ⟨by rw [bytesOf_len]; exact hR, hk, fun e => by cases e⟩, hB, fun a ha => by injection ha with ha; subst ha; exact ⟨Nat.le_succ _, hS⟩⟩
  unfold Hv.v
  rw [show (bytesOf key).length = key.size from bytesOf_len key]
end Go.Proofs.Ytfimgkjdfjlkhaa
