import Derived.Test.YthclmacnmbmepaaWq
namespace Go.Proofs.Ythclmacnmbmepaa
open Go.RowKit Bel Go.Maps Go.Shelf

/-- The trace of the examples. -/
def gv : List Int := [1, 2, 3, 1, 4, 2, 1, 3]
theorem gv_wf : ∀ x ∈ gv, (Lit.int .u32 x).wf = true := by decide
def GivenTo (w : World) (e : Ending) (w' : World) : Prop := e = .returned (.slice (some ⟨w.heap.size, 0, none⟩) 8 8) ∧ Reads w' w'.heap.size 1 (some ⟨w.heap.size, 0, none⟩) 8 (ints .u32 gv) ∧ Below w.heap.size w w'
theorem Blk.reads {w : World} {g : Nat} {t : TypeId} {xs : List Value} {n size : Nat} (h : Blk w g t xs.toArray) (hl : xs.length = n * size) : Reads w w.heap.size size (some ⟨g, 0, none⟩) n xs :=
  ⟨hl, fun _ => ⟨_, rfl, h.lt, fun j u hu => by
    rw [show (⟨g, 0, none⟩ : Addr).add j = ⟨g, j, none⟩ from by rw [add_spot _ _ rfl]; simp]
    rw [h.cell]; simpa using hu⟩⟩
theorem given_any (w : World) : Calls Try.prog 26 #[] w (GivenTo w) := by
  have hb := Blk.new w 45 (ints .u32 gv).toArray
  have hr : Reads (w.alloc (.cells (ints .u32 gv).toArray 45)) (w.alloc (.cells (ints .u32 gv).toArray 45)).heap.size 1 (some ⟨w.heap.size, 0, none⟩) 8 (ints .u32 gv) := hb.reads rfl
  have HR := Lib.hid hr
  clear hr hb
  go_enter Try.func26, Try.ntmps26
  go_wp2
  go_ret
  exact ⟨rfl, HR.out, (Below.refl _ _).alloc (Nat.le_refl _) _⟩
theorem out_any (k : Int) (w : World) : Calls Try.prog 25 #[.int .u32 k] w fun e w' => e = .returned (.agg #[.bool false, .bool true, .int .u32 k]) ∧ Below w.heap.size w w' := by
  go_enter Try.func25, Try.ntmps25
  go_wp2
  exact bodyPost_ret (v := .agg #[.bool false, .bool true, .int .u32 k]) (by simp [results, Try.results25, go_sem]) rfl ⟨rfl, (Below.refl _ _).alloc (Nat.le_refl _) _⟩
set_option maxHeartbeats 1000000 in
theorem hits_ex (s m : Nat) (w : World) (hs1 : 1 ≤ s) (hs2 : s ≤ 1024) (hm : hits (turnsL s gv []) = m) :
    Calls Try.prog 27 #[.int .i64 s, .int .i64 m] w fun e w' => e = .returned (.bool true) ∧ Below w.heap.size w w' := by
  have HG := Lib.hid (given_any w)
  go_enter Try.func27, Try.ntmps27
  go_wp2_with fail
  refine HG.out.mono ?_
  rintro e w1 ⟨rfl, hr1, hb1⟩
  have HH := Lib.hid (hitsP_any (some ⟨w.heap.size, 0, none⟩) 8 8 s gv w1 hr1 gv_wf (by omega) hs1 hs2)
  rw [hm] at HH
  have HB := Lib.hid hb1
  clear hr1 hb1 hm
  go_wp2_with fail
  refine HH.out.mono ?_
  rintro e w2 ⟨rfl, hb2⟩
  have HB2 := Lib.hid (HB.out.trans (hb2.mono HB.out.size))
  clear hb2
  go_wp2_with fail
  refine (gives_any m 0 m w2).mono ?_
  rintro e w3 ⟨rfl, rfl⟩
  go_wp2
  go_ret
  exact ⟨ret_bool (by simp), HB2.out⟩
end Go.Proofs.Ythclmacnmbmepaa
