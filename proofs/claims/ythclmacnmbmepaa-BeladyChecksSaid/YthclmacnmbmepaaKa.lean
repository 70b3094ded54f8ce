import Derived.Test.YthclmacnmbmepaaWy
import Derived.Test.YthclmacnmbmepaaWx
import Derived.Deep.RegionHeld3
namespace Go.Proofs.Ythclmacnmbmepaa
open Go.RowKit Bel Go.Maps Go.Shelf
/-- The turns of the examples. -/
def tsG : List Turn := [⟨false, false, 0⟩, ⟨false, false, 0⟩, ⟨false, true, 2⟩, ⟨true, false, 0⟩, ⟨false, true, 3⟩, ⟨false, true, 4⟩, ⟨true, false, 0⟩, ⟨false, true, 1⟩]
def nxG : List Int := [3, 5, 7, 6, 8, 8, 8, 8]
theorem nx_gv : nextsTo gv 8 = nxG := by decide
theorem tn_gv : turnsL 2 gv [] = tsG := by decide
theorem h1_gv : hits (turnsL 1 gv []) = 0 := by decide
theorem h2_gv : hits (turnsL 2 gv []) = 2 := by decide
theorem h3_gv : hits (turnsL 3 gv []) = 3 := by decide
theorem h4_gv : hits (turnsL 4 gv []) = 4 := by decide
theorem b2_gv : V 2 gv [] = 2 := by decide +kernel
theorem b3_gv : V 3 gv [] = 3 := by decide +kernel
theorem k2_gv : checkH 2 gv tsG = 2 := by decide
theorem e2_gv : checkE 2 gv tsG = 0 := by decide
theorem k1_gv : checkH 1 gv tsG = 0 := by decide
theorem e1_gv : checkE 1 gv tsG = 10 := by decide
theorem tsG_wf : ∀ x ∈ tsG, (Lit.int .u32 x.out).wf = true := by decide
theorem check_ex (g g4 c d s : Nat) (m e : Int) (w : World) (h : Reads w w.heap.size 1 (some ⟨g, 0, none⟩) 8 (ints .u32 gv)) (h' : Reads w w.heap.size 3 (some ⟨g4, 0, none⟩) 8 (tcells tsG)) (hs1 : 1 ≤ s) (hs2 : s ≤ 1024) (hm : checkH s gv tsG = m) (he : checkE s gv tsG = e) :
    Calls Try.prog 19 #[.slice (some ⟨g, 0, none⟩) 8 c, .int .i64 s, .slice (some ⟨g4, 0, none⟩) 8 d] w fun r w' => r = .returned (.tuple #[.int .i64 m, .int .i64 e]) ∧ Below w.heap.size w w' := by
  rw [← hm, ← he]
  exact checkP_any _ _ 8 c d s gv tsG w h h' gv_wf tsG_wf (by omega) hs1 hs2

theorem own_slice {w : World} {base : Nat} {e : TypeId} {size n : Nat} {v : Value} {xs : List Value} (h : w.ownsRow base e size v n xs) : ∃ A cap, v = .slice A n cap ∧ Reads w w.heap.size size A n xs := by
  have h0 := h
  rcases h.2 with ⟨rfl, rfl⟩ | ⟨g, cap, cur, rfl, _⟩
  · exact ⟨_, _, rfl, Reads.of_own h0⟩
  · exact ⟨_, _, rfl, Reads.of_own h0⟩
/-- What is held through the region: the cells of 'hit', and all of an elder world. -/
def KS (a : Nat) (w4 w' : World) : Prop :=
  w'.cell? ⟨a, 0, none⟩ = some (.bool true) ∧ w'.cell? ⟨a, 1, none⟩ = some (.bool false) ∧ w'.cell? ⟨a, 2, none⟩ = some (.int .u32 0) ∧ a < w4.heap.size ∧ Below w4.heap.size w4 w'
section
variable {a : Nat} {w4 w' w'' : World}
theorem KS.below (h : KS a w4 w') (hb : Below w4.heap.size w' w'') : KS a w4 w'' := by
  obtain ⟨h0, h1, h2, hl, h3⟩ := h
  exact ⟨(hb.cell hl).trans h0, (hb.cell hl).trans h1, (hb.cell hl).trans h2, hl, h3.trans hb⟩
theorem KS.drew (h : KS a w4 w') : KS a w4 w'.drew := h.below ((Below.refl _ _).drew)
theorem KS.drewN (h : KS a w4 w') (q : Nat) : KS a w4 (w'.drewN q) := h.below ⟨rfl, rfl, rfl, Nat.le_refl _, fun _ _ => rfl⟩
theorem KS.alloc (h : KS a w4 w') (o : Obj) : KS a w4 (w'.alloc o) := h.below ((Below.refl _ _).alloc h.2.2.2.2.size _)
theorem KS.call (h : KS a w4 w') (hb : Below w'.heap.size w' w'') : KS a w4 w'' := h.below (hb.mono h.2.2.2.2.size)
end
set_option maxHeartbeats 1000000 in
theorem best_ex (s m : Nat) (w : World) (hs1 : 1 ≤ s) (hs2 : s ≤ 1024) (hm : V s gv [] = m) :
    Calls Try.prog 28 #[.int .i64 s, .int .i64 m] w fun e w' => e = .returned (.bool true) ∧ Below w.heap.size w w' := by
  have HG := Lib.hid (given_any w)
  go_enter Try.func28, Try.ntmps28
  go_wp2_with fail
  refine HG.out.mono ?_
  rintro e w1 ⟨rfl, hr1, hb1⟩
  have HH := Lib.hid (bestP_any (some ⟨w.heap.size, 0, none⟩) 8 8 s gv w1 hr1 gv_wf (by omega) hs1 hs2)
  rw [hm] at HH
  have HB := Lib.hid hb1
  clear hr1 hb1 hm
  go_wp2_with fail
  refine HH.out.mono ?_
  rintro e w2 ⟨rfl, hb2⟩
  have HB2 := Lib.hid (HB.out.trans (hb2.mono HB.out.size))
  clear hb2
  go_wp2_with fail
  refine (gives_any m 0 m w2).mono ?_
  rintro e w3 ⟨rfl, rfl⟩
  go_wp2
  go_ret
  exact ⟨ret_bool (by simp), HB2.out⟩
theorem same_ex (a g4 : Nat) (w4 w5 : World) (hs : KS a w4 (w5.alloc (.cells (tcells tsG).toArray 50))) (h : Reads w4 w4.heap.size 3 (some ⟨g4, 0, none⟩) 8 (tcells tsG)) :
    Calls Try.prog 17 #[.slice (some ⟨g4, 0, none⟩) 8 8, .slice (some ⟨w5.heap.size, 0, none⟩) 8 8] (w5.alloc (.cells (tcells tsG).toArray 50)) fun e w' => e = .returned (.bool true) ∧ Below (w5.alloc (.cells (tcells tsG).toArray 50)).heap.size (w5.alloc (.cells (tcells tsG).toArray 50)) w' := by
  have h5 := Blk.new w5 50 (tcells tsG).toArray
  have hb := hs.2.2.2.2
  have := same_any (some ⟨g4, 0, none⟩) (some ⟨w5.heap.size, 0, none⟩) 8 8 8 8 tsG tsG (w5.alloc (.cells (tcells tsG).toArray 50)) (w5.alloc (.cells (tcells tsG).toArray 50)).heap.size ((h.below hb).more hb.size) (h5.reads rfl) (by omega) (by omega)
  refine this.mono ?_
  rintro e w' ⟨rfl, q, rfl⟩
  exact ⟨by simp, rfl, rfl, rfl, Nat.le_refl _, fun _ _ => rfl⟩
set_option maxRecDepth 100000 in
set_option maxHeartbeats 2000000 in
theorem known_any (w : World) : Calls Try.prog 9 #[] w fun e w' => e = .returned (.bool true) ∧ Below w.heap.size w w' := by
  have k0 := Blk.new w 50 #[.bool true, .bool false, .int .u32 0]
  have b0 : Below w.heap.size w (w.alloc (.cells #[.bool true, .bool false, .int .u32 0] 50)) := (Below.refl _ _).alloc (Nat.le_refl _) _
  have K0 := Lib.hid k0
  have B0 := Lib.hid b0
  clear k0 b0
  go_enter Try.func9, Try.ntmps9
  go_wp2_with fail
  generalize w.alloc (.cells #[.bool true, .bool false, .int .u32 0] 50) = w0 at *
  have k0 := K0.out
  refine (given_any _).mono ?_
  rintro e w1 ⟨rfl, hr1, hb1⟩
  go_wp2_with fail
  refine (nextP_any _ 8 8 gv w1 hr1 gv_wf (by omega)).mono ?_
  rintro e w2 ⟨v, rfl, ho2, hb2⟩
  go_wp2_with fail
  refine (given_any _).mono ?_
  rintro e w3 ⟨rfl, hr3, hb3⟩
  go_wp2_with fail
  refine (turnsP_any _ 8 8 2 gv w3 hr3 gv_wf (by omega) (by omega) (by omega)).mono ?_
  rintro e w4 ⟨g4, rfl, hg4, hk4, hb4⟩
  go_wp2_with fail
  obtain ⟨A, cap, rfl, hrv⟩ := own_slice ho2
  rw [nx_gv] at hrv
  rw [tn_gv] at hk4
  have hL4 := Below.trans hb3 (hb4.mono hb3.size)
  have hrv := hrv.below hL4
  have hb04 := (B0.out.trans ((hb1.trans ((hb2.trans (hL4.mono hb2.size)).mono hb1.size)).mono B0.out.size))
  have hk04 := k0.below ((hb1.trans ((hb2.trans (hL4.mono hb2.size)).mono hb1.size))) k0.lt
  have R4 := Lib.hid ((hk4.reads (n := 8) (size := 3) rfl))
  have RV := Lib.hid (hrv.more (B' := w4.heap.size) (by have := hL4.size; omega))
  have HB4 := Lib.hid hb04
  have c0 := hk04.cell 0
  have c1 := hk04.cell 1
  have c2 := hk04.cell 2
  simp only [List.getElem?_toArray, List.getElem?_cons_zero, List.getElem?_cons_succ] at c0 c1 c2
  have hlt : w.heap.size < w4.heap.size := hk04.lt
  have hbr : Below w4.heap.size w4 w4 := Below.refl _ _
  have hks : KS w.heap.size w4 w4 := ⟨c0, c1, c2, hlt, hbr⟩
  have hI : Calls Try.prog 11 #[.slice A 8 cap, .slice (some ⟨w4.heap.size, 0, none⟩) 8 8] (w4.alloc (.cells (ints .i64 nxG).toArray 3)).drew fun e w' => e = .returned (.bool true) ∧ Below (w4.alloc (.cells (ints .i64 nxG).toArray 3)).drew.heap.size (w4.alloc (.cells (ints .i64 nxG).toArray 3)).drew w' := by
    have hb := Blk.new w4 3 (ints .i64 nxG).toArray
    have := ints_any A (some ⟨w4.heap.size, 0, none⟩) 8 cap 8 8 nxG nxG (w4.alloc (.cells (ints .i64 nxG).toArray 3)).drew (w4.alloc (.cells (ints .i64 nxG).toArray 3)).heap.size (((RV.out.alloc (Nat.le_refl _) _).drew).more (by simp)) (hb.reads rfl) (by omega) (by omega)
    refine this.mono ?_
    rintro e w' ⟨rfl, q, rfl⟩
    exact ⟨by simp, rfl, rfl, rfl, Nat.le_refl _, fun _ _ => rfl⟩
  have HI := Lib.hid hI
  clear hI
  clear hr1 hb1 ho2 hb2 hr3 hb3 hk4 hb4 hL4 hrv hb04 hk04 k0 K0 B0
  go_wp2_with fail
  go_region_held3 (fun w' => w'.cell? ⟨w.heap.size, 0, none⟩ = some (.bool true) ∧ w'.cell? ⟨w.heap.size, 1, none⟩ = some (.bool false) ∧ w'.cell? ⟨w.heap.size, 2, none⟩ = some (.int .u32 0) ∧ w.heap.size < w4.heap.size ∧ Below w4.heap.size w4 w')
    (first
      | exact KS.drew (a := w.heap.size) (w4 := w4) (by assumption)
      | exact KS.alloc (a := w.heap.size) (w4 := w4) (by assumption) _
      | exact KS.drewN (a := w.heap.size) (w4 := w4) (by assumption) _
      | exact KS.call (a := w.heap.size) (w4 := w4) (by assumption) hb'
      | fail)
    (first
      | (go_at_call 11; refine HI.out.mono ?_; rintro e w' ⟨rfl, hb'⟩)
      | (go_at_call 25; refine (out_any _ _).mono ?_; rintro e w' ⟨rfl, hb'⟩)
      | (go_at_call 17; refine (same_ex w.heap.size g4 w4 _ ?_ R4.out).mono ?_; (assumption); rintro e w' ⟨rfl, hb'⟩))
  have hks5 : KS w.heap.size w4 w' := by assumption
  have HB5 := Lib.hid hks5.2.2.2.2
  clear hks5
  go_wp2_with fail
  refine (hits_ex 1 0 _ (by omega) (by omega) h1_gv).mono ?_
  rintro e w6 ⟨rfl, hb6⟩
  have HB6 := Lib.hid (HB5.out.trans (hb6.mono HB5.out.size))
  clear hb6
  go_wp2_with fail
  refine (hits_ex 2 2 _ (by omega) (by omega) h2_gv).mono ?_
  rintro e w7 ⟨rfl, hb7⟩
  have HB7 := Lib.hid (HB6.out.trans (hb7.mono HB6.out.size))
  clear hb7
  go_wp2_with fail
  refine (hits_ex 3 3 _ (by omega) (by omega) h3_gv).mono ?_
  rintro e w8 ⟨rfl, hb8⟩
  have HB8 := Lib.hid (HB7.out.trans (hb8.mono HB7.out.size))
  clear hb8
  go_wp2_with fail
  refine (hits_ex 4 4 _ (by omega) (by omega) h4_gv).mono ?_
  rintro e w9 ⟨rfl, hb9⟩
  have HB9 := Lib.hid (HB8.out.trans (hb9.mono HB8.out.size))
  clear hb9
  go_wp2_with fail
  refine (best_ex 2 2 _ (by omega) (by omega) b2_gv).mono ?_
  rintro e w10 ⟨rfl, hb10⟩
  have HB10 := Lib.hid (HB9.out.trans (hb10.mono HB9.out.size))
  clear hb10
  go_wp2_with fail
  refine (best_ex 3 3 _ (by omega) (by omega) b3_gv).mono ?_
  rintro e w11 ⟨rfl, hb11⟩
  have HB11 := Lib.hid (HB10.out.trans (hb11.mono HB10.out.size))
  clear hb11
  go_wp2_with fail
  refine (given_any _).mono ?_
  rintro e w12 ⟨rfl, hr12, hb12⟩
  have HR12 := Lib.hid hr12
  have HB12 := Lib.hid (HB11.out.trans (hb12.mono HB11.out.size))
  clear hb12 hr12
  go_wp2_with fail
  refine (check_ex _ g4 8 8 2 2 0 w12 HR12.out ((R4.out.below HB12.out).more HB12.out.size) (by omega) (by omega) k2_gv e2_gv).mono ?_
  rintro e w13 ⟨rfl, hb13⟩
  have HB13 := Lib.hid (HB12.out.trans (hb13.mono HB12.out.size))
  clear hb13
  go_wp2_with fail
  refine (given_any _).mono ?_
  rintro e w14 ⟨rfl, hr14, hb14⟩
  have HR14 := Lib.hid hr14
  have HB14 := Lib.hid (HB13.out.trans (hb14.mono HB13.out.size))
  clear hb14 hr14
  go_wp2_with fail
  refine (check_ex _ g4 8 8 1 0 10 w14 HR14.out ((R4.out.below HB14.out).more HB14.out.size) (by omega) (by omega) k1_gv e1_gv).mono ?_
  rintro e w15 ⟨rfl, hb15⟩
  have HB15 := Lib.hid (HB14.out.trans (hb15.mono HB14.out.size))
  clear hb15
  go_wp2_with fail
  refine (given_any _).mono ?_
  rintro e w16 ⟨rfl, hr16, hb16⟩
  have HR16 := Lib.hid hr16
  have HB16 := Lib.hid (HB15.out.trans (hb16.mono HB15.out.size))
  clear hb16 hr16
  go_wp2_with fail
  refine (checkP_len _ none 8 8 0 0 2 w16 rfl (by omega)).mono ?_
  rintro e w17 ⟨rfl, rfl⟩
  go_wp2_with fail
  refine (gives_any 2 0 2 _).mono ?_
  rintro e w18 ⟨rfl, rfl⟩
  go_wp2
  go_ret
  exact ⟨ret_bool (by simp), HB4.out.trans (HB16.out.mono HB4.out.size)⟩
end Go.Proofs.Ythclmacnmbmepaa
