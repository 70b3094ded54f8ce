import Derived.Test.YthclmacnmbmepaaWu
import Derived.Deep.RegionHeld3
namespace Go.Proofs.Ythclmacnmbmepaa
open Go.RowKit Bel Go.Maps Go.Shelf

/-- What holds at the head of each round of the loop over the keys. -/
structure LP (l : Lay) (w : World) (a b i j q : Nat) (wr : World) : Prop where
  st : ST l wr (q + j * U (l.n - (a + 1)))
  k0 : Blk wr w.heap.size 79 #[.int .i64 a, .int .u16 b]
  k1 : Blk wr (w.heap.size + 1) 3 #[.int .i64 (loopW l.s l.tr l.ks a b i j)]
  k2 : Blk wr (w.heap.size + 2) 79 #[.int .i64 ((a : Int) + 1), .int .u16 (orB b i)]
  g : w.grownBy wr (some l.bK)
theorem bit_val {b j : Nat} (hb : b < 65536) : bits .and .u16 ((b : Int) / 2 ^ j) 1 = ((b / 2 ^ j % 2 : Nat) : Int) := by
  have h1 : ((b : Int) / 2 ^ j) = ((b / 2 ^ j : Nat) : Int) := by push_cast; rfl
  rw [h1]
  have h2 := u16_and_nat (b / 2 ^ j) 1 (Nat.lt_of_le_of_lt (Nat.div_le_self _ _) hb) (by omega)
  rw [nat_mask1] at h2
  exact h2
theorem bit_yes {b j : Nat} (hb : b < 65536) (h : b.testBit j = true) : bits .and .u16 ((b : Int) / 2 ^ j) 1 = 1 := by
  rw [Nat.testBit_eq_decide_div_mod_eq, decide_eq_true_eq] at h
  rw [bit_val hb, h]; rfl
theorem bit_no {b j : Nat} (hb : b < 65536) (h : b.testBit j = false) : bits .and .u16 ((b : Int) / 2 ^ j) 1 = 0 := by
  rw [Nat.testBit_eq_decide_div_mod_eq, decide_eq_false_iff_not] at h
  rw [bit_val hb]
  have : b / 2 ^ j % 2 = 0 := by omega
  rw [this]; rfl
def outB (ob j : Nat) : Nat := ob &&& (65535 - 2 ^ j)
theorem andNot_bits {b i : Nat} (hb : b < 65536) (h : i < 14) : bits .andNot .u16 (b : Int) (pw i : Int) = (outB b i : Int) := u16_andNot_nat b (pw i) hb (pw_lt h)
theorem two_ways {P : Program} {ops : Array Oper} {Q : Exit → Act → World → Prop} {md : Region.Mode} {S : World → Prop} {fuel : Nat} {listed : Array Bool} {a : Act} {w : World} {i0 i1 : Nat} {o0 o1 : Oper} (h0 : ops[i0]? = some o0) (h1 : ops[i1]? = some o1)
    (A : ∀ K' : Act → World → Prop, Shut (∀ a w, S w → (S w → wpAnyH P md ops Q S fuel (listed.setIfInBounds i0 true) a w) → K' a w) → if Region.wanted o0 (yielded ops a.tmps) = true then Oper.wp P o0 a w K' Q else K' (a.put o0.dst undef) w)
    (B : ∀ K' : Act → World → Prop, Shut (∀ a w, S w → (S w → wpAnyH P md ops Q S fuel (listed.setIfInBounds i1 true) a w) → K' a w) → if Region.wanted o1 (yielded ops a.tmps) = true then Oper.wp P o1 a w K' Q else K' (a.put o1.dst undef) w) :
    AllReadyH P md ops Q S fuel listed a w [i0, i1] := AllReadyH.cons h0 A (AllReadyH.cons h1 B AllReadyH.nil)
theorem cl_args0 (l : Lay) (a ob m : Nat) : clArgs l ((a + 1 : Nat) : Int) ob (m : Int) = #[.agg #[.int .i64 ((a : Int) + 1), .int .u16 ob], .int .i64 (m : Int), .pointer (some ⟨l.bT, 0, none⟩), .pointer (some ⟨l.bKv, 0, none⟩), .pointer (some ⟨l.bNv, 0, none⟩), .pointer (some ⟨l.bF, 0, none⟩), .pointer (some ⟨l.bS, 0, none⟩)] := rfl
theorem U_loop {q n a j : Nat} (hq : q + U (n - a) ≤ most) (ha : a < n) (hj : j < 14) : q + j * U (n - (a + 1)) + U (n - (a + 1)) ≤ most ∧ True := by
  have hU := U_step ha
  generalize U (n - (a + 1)) = u at *
  have h1 : j * u + u = (j + 1) * u := by rw [Nat.add_mul]; omega
  have h2 : (j + 1) * u ≤ 14 * u := Nat.mul_le_mul_right u (by omega)
  exact ⟨by omega, trivial⟩
theorem U_last {q n a j : Nat} (hq : q + U (n - a) ≤ most) (ha : a < n) (hj : j ≤ 14) : q + j * U (n - (a + 1)) < maxLen ∧ q + j * U (n - (a + 1)) + 1 ≤ q + U (n - a) := by
  have hU := U_step ha
  generalize U (n - (a + 1)) = u at *
  have h2 : j * u ≤ 14 * u := Nat.mul_le_mul_right u hj
  exact ⟨Nat.lt_of_le_of_lt (by omega) most_lt, by omega⟩
theorem ST.drew {l : Lay} {w : World} {q : Nat} (h : ST l w q) : ST l w.drew q := h.drewN 1
theorem grown_drew {w w' : World} {row : Option Nat} (h : w.drew.grownBy w' row) : w.grownBy w' row := ⟨h.os, h.tape, h.output, h.size, h.block⟩
/-- Behind the call of one round. -/
structure LQ (l : Lay) (w : World) (a b i j q : Nat) (wr : World) : Prop where
  st : ST l wr (q + j * U (l.n - (a + 1)) + U (l.n - (a + 1)))
  k0 : Blk wr w.heap.size 79 #[.int .i64 a, .int .u16 b]
  k1 : Blk wr (w.heap.size + 1) 3 #[.int .i64 (loopW l.s l.tr l.ks a b i j)]
  k2 : Blk wr (w.heap.size + 2) 79 #[.int .i64 ((a : Int) + 1), .int .u16 (orB b i)]
  g : w.grownBy wr (some l.bK)
theorem LP.step {l : Lay} {w : World} {a b i j q : Nat} {wr w5 : World} (h : LP l w a b i j q wr) (hs : ST l w5 (q + j * U (l.n - (a + 1)) + U (l.n - (a + 1)))) (hg : wr.drew.grownBy w5 (some l.bK)) (hb : l.bK < w.heap.size) : LQ l w a b i j q w5 where
  st := hs
  k0 := h.k0.grown (grown_drew hg) (by simp; omega)
  k1 := h.k1.grown (grown_drew hg) (by simp; omega)
  k2 := h.k2.grown (grown_drew hg) (by simp; omega)
  g := h.g.andThen (grown_drew hg) (fun j hj => Or.inr hj)
theorem LQ.put {l : Lay} {w : World} {a b i j q : Nat} {w5 : World} (h : LQ l w a b i j q w5) (hL : l.L ≤ w.heap.size) (hb : b.testBit j = true) (x : Int)
    (hx : x = ((max (loopW l.s l.tr l.ks a b i j) (W l.s l.tr l.ks (a + 1) (outB (orB b i) j)) : Nat) : Int)) : LP l w a b i (j + 1) q (w5.setCell ⟨w.heap.size + 1, 0, none⟩ (.int .i64 x)) where
  st := by
    have := h.st.below ((Below.refl _ w5).setCell (p := ⟨w.heap.size + 1, 0, none⟩) (by simp; omega) (.int .i64 x))
    rw [Nat.add_assoc, ← Nat.succ_mul] at this
    exact this
  k0 := h.k0.far (by simp) _
  k1 := by
    have := h.k1.set_ 0 (.int .i64 x)
    rw [hx] at this ⊢
    rw [loopW_yes hb]
    exact this
  k2 := h.k2.far (by simp) _
  g := grew_set h.g (by simp) _
theorem max_cast (x y : Nat) : (if x < y then (y : Int) else (x : Int)) = ((max x y : Nat) : Int) := by
  rw [Nat.max_def]
  split <;> split <;> omega
theorem LP.skip {l : Lay} {w : World} {a b i j q : Nat} {wr : World} (h : LP l w a b i j q wr) (hb : b.testBit j = false) : LP l w a b i (j + 1) q wr := by
  obtain ⟨h1, h2, h3, h4, h5⟩ := h
  exact ⟨h1.mono (by rw [Nat.add_mul]; omega), h2, by rw [loopW_no hb]; exact h3, h4, h5⟩
set_option maxRecDepth 100000 in
set_option maxHeartbeats 2000000 in
/-- A miss without room. -/
theorem cl_full (l : Lay) (ok : Ok l) (a b q : Nat) (w : World) (v0 : Int) (ha : a < l.n) (hb : b < 2 ^ l.ks.length) (hm : (sel l.ks b).length ≤ l.s) (hL : l.L ≤ w.heap.size) (hs : ST l w q) (hq : q + U (l.n - a) ≤ most)
    (hlk : (Instr.lookup 75 (.map (some l.bK)) (stv a b) true).run Try.prog (w2 w a b) = .ok (.tuple #[.int .i64 v0, .bool false]) (w2 w a b))
    (ih : ClAt l (a + 1)) (hbit : b.testBit (l.ks.idxOf (nth l.tr a)) = false) (hroom : ¬ (sel l.ks b).length < l.s) :
    Calls Try.prog 42 (clArgs l a b (sel l.ks b).length) w (clTo l a b q w) := by
  have hmf : ∀ (fn : Fn) (first cap : Array Value) (w : World), (Instr.makeFunc fn first cap).run Try.prog w = .ok (.func fn first cap) w := fun _ _ _ _ => rfl
  have hat : a < l.tr.length := by rw [ok.len]; exact ha
  have ha14 : a ≤ 14 := Nat.le_trans (Nat.le_of_lt ha) ok.n14
  have hb14 := lt14 hb ok.k14
  have ht14 : l.tr.length ≤ 14 := by rw [ok.len]; exact ok.n14
  have HQ := Lib.hid (U_room hq ha)
  have HHQ := Lib.hid hq
  have HA14 := Lib.hid ha14
  have HB14 := Lib.hid hb14
  have HT14 := Lib.hid ht14
  clear ha14 hb14 ht14 hq
  have hmem : nth l.tr a ∈ l.ks := ok.all _ (nth_mem hat)
  have hwf := ok.wf _ (nth_mem hat)
  have hid := List.idxOf_lt_length_of_mem hmem
  have h14 := ok.k14
  have hB2 : Below l.L w (w2 w a b) := ((Below.refl _ w).alloc hL _).alloc (by simp; omega) _
  have hs2 := hs.below hB2
  have hnl : ∀ q', (Instr.lookup 56 (.map (some l.bN)) (.int .u32 (nth l.tr a)) false).run Try.prog ((w2 w a b).drewN q') = .ok (.int .i64 (l.ks.idxOf (nth l.tr a))) ((w2 w a b).drewN q') := fun q' => (hs2.drewN q').N.look hwf hmem
  have hT := hs.T.cell 0
  have hKv := hs.Kv.cell 0
  have hNv := hs.Nv.cell 0
  have hF := hs.F.cell 0
  have hS := hs.S.cell 0
  simp only [List.getElem?_toArray, List.getElem?_cons_zero] at hT hKv hNv hF hS
  have hlt := hs.T.lt
  have hlt' := hs.Kv.lt
  have hlt2 := hs.Nv.lt
  have hlt3 := hs.F.lt
  have hlt4 := hs.S.lt
  have ha1 : ¬ (a : Int) = (l.n : Int) := by omega
  obtain ⟨b0, o0, hA, hbw, hc⟩ := hs.R.int_at ha
  have hbw' : b0 < w.heap.size := by have := hs.hB; omega
  have HS := Lib.hid hs
  have HS2 := Lib.hid hs2
  rw [hA] at hT
  have hk0 : (0 : Int) ≤ (a : Int) := Int.natCast_nonneg _
  have hk1 : (a : Int) < (l.n : Int) := by omega
  have HAX := Lib.hid hA
  generalize hi : l.ks.idxOf (nth l.tr a) = i at *
  unfold stv w2 at hlk
  unfold w2 at hnl
  have HI := Lib.hid hi
  have hpow := pow_wrap (i := i) (by omega)
  have hor := or_bits (b := b) (i := i) (lt16 hb h14) (by omega)
  have hand := and_bits (b := b) (i := i) (lt16 hb h14) (by omega)
  clear hs hs2 hA hi
  unfold clArgs
  go_enter_defers Try.func42, Try.ntmps42
  go_wp2_with fail
  go_quiet (fail)
  have hs3 := (HS2.out.drewN nq)
  have k0 : Blk ((w2 w a b).drewN nq) w.heap.size 79 #[.int .i64 a, .int .u16 b] := (Blk.new w 79 _).alloc _
  have k1 : Blk ((w2 w a b).drewN nq) (w.heap.size + 1) 3 #[.int .i64 0] := by
    have := Blk.new (w.alloc (.cells #[.int .i64 a, .int .u16 b] 79)) 3 #[.int .i64 0]
    simp only [World.size_alloc] at this
    exact this
  have hg3 : w.grownBy ((w2 w a b).drewN nq) (some l.bK) := grown_two w a b nq _
  have hsz : ((w2 w a b).drewN nq).heap.size = w.heap.size + 2 := by simp [w2]
  unfold w2 at hs3 k0 k1 hg3 hsz
  generalize ((w.alloc (.cells #[.int .i64 a, .int .u16 b] 79)).alloc (.cells #[.int .i64 0] 3)).drewN nq = W3 at *
  have s0 := k0.cell 0
  have s1 := k0.cell 1
  have f1 := k1.frozen 0
  have hF := hs3.F.cell 0
  have hw1 : wrap64 ((a : Int) + 1) = (a : Int) + 1 := wrap64_small (by omega) (by have := ok.n14; omega)
  simp only [List.getElem?_toArray, List.getElem?_cons_zero, List.getElem?_cons_succ] at s0 s1 hF
  unfold Lay.fn at hF
  have g1 : l.bF < w.heap.size + 2 := by omega
  have g2 : l.bS < w.heap.size + 2 := by omega
  have g3 : l.bNv < w.heap.size + 2 := by omega
  have g4 : w.heap.size < w.heap.size + 2 := by omega
  have hne : ((andB b i : Int) != 0) = false := by
    have := andB_zero hbit
    simp; omega
  have hS := hs3.S.cell 0
  simp only [List.getElem?_toArray, List.getElem?_cons_zero] at hS
  have hr1 : (l.s : Int) ≤ ((sel l.ks b).length : Int) := by omega
  have hlen := (hs3.below ((Below.refl _ W3).alloc (by omega) (.cells #[.int .i64 ((a : Int) + 1), .int .u16 (orB b i)] 79))).N.len 3
  have hNv := hs3.Nv.cell 0
  simp only [List.getElem?_toArray, List.getElem?_cons_zero] at hNv
  have HK0 := Lib.hid k0
  have HK1 := Lib.hid k1
  have HG3 := Lib.hid hg3
  have HS3 := Lib.hid hs3
  clear k0 k1 hg3 hs3 hnl hlk
  go_wp2_with fail
  have hbK : l.bK < w.heap.size := by have := HS.out.hK; omega
  have lp0 : LP l w a b i 0 q (W3.alloc (.cells #[.int .i64 ((a : Int) + 1), .int .u16 (orB b i)] 79)) := {
    st := (HS3.out.below ((Below.refl _ W3).alloc (by omega) _)).mono (by omega)
    k0 := HK0.out.alloc _
    k1 := HK1.out.alloc _
    k2 := by
      have := Blk.new W3 79 #[.int .i64 ((a : Int) + 1), .int .u16 (orB b i)]
      rw [hsz] at this
      exact this
    g := HG3.out.andThen (World.grownBy_alloc W3 _ none) (fun j hj => by cases hj) }
  generalize (W3.alloc (.cells #[.int .i64 ((a : Int) + 1), .int .u16 (orB b i)] 79)) = W4 at lp0 hlen ⊢
  have HLP := Lib.hid lp0
  clear lp0
  go_loopw [14, 67] (fun _ x wr => ∃ j : Nat, j ≤ l.ks.length ∧ x = .int .i64 j ∧ LP l w a b i j q wr) (fun _ x _ => l.ks.length - (intOf x).toNat)
  case atStart => exact ⟨0, Nat.zero_le _, rfl, HLP.out⟩
  case round =>
    obtain ⟨j, hj, rfl, lp⟩ := hrel
    by_cases hjd : j < l.ks.length
    · have hj0 : (0 : Int) ≤ (j : Int) := Int.natCast_nonneg _
      have hj1 : (j : Int) < (l.ks.length : Int) := by omega
      have r1 := lp.k0.cell 1
      have c1 := lp.k1.cell 0
      have m0 := lp.k2.cell 0
      have m1 := lp.k2.cell 1
      have hFr := lp.st.F.cell 0
      simp only [List.getElem?_toArray, List.getElem?_cons_zero, List.getElem?_cons_succ] at r1 c1 m0 m1 hFr
      unfold Lay.fn at hFr
      have f1 := lp.k1.frozen 0
      have HP := Lib.hid lp
      clear lp
      clear hlen hF s0 s1 hNv
      cases hbj : b.testBit j with
      | false =>
        have hbt := bit_no (lt16 hb h14) hbj
        have HBJ := Lib.hid hbj
        clear hbj
        go_wp2
        go_roundw
        case rel => exact ⟨j + 1, by omega, by go_num, HP.out.skip HBJ.out⟩
        case measure => simp [intOf]; omega
      | true =>
        have hbt := bit_yes (lt16 hb h14) hbj
        have hpj := pow_wrap (i := j) (by omega)
        have han := andNot_bits (b := orB b i) (i := j) (lt16 (or_lt hb hid) h14) (by omega)
        have HBJ := Lib.hid hbj
        have HC0 : Calls Try.prog 42 #[.agg #[.int .i64 ((a : Int) + 1), .int .u16 (outB (orB b i) j)], .int .i64 (sel l.ks b).length, .pointer (some ⟨l.bT, 0, none⟩), .pointer (some ⟨l.bKv, 0, none⟩), .pointer (some ⟨l.bNv, 0, none⟩), .pointer (some ⟨l.bF, 0, none⟩), .pointer (some ⟨l.bS, 0, none⟩)]
            wr.drew (clTo l (a + 1) (outB (orB b i) j) (q + j * U (l.n - (a + 1))) wr.drew) := by
          have e1 : (sel l.ks (outB (orB b i) j)).length = (sel l.ks b).length := by
            have := sel_out_len (b := b) (r := nth l.tr a) ok.nodup (by omega) hmem (by rw [HI.out]; exact hbit) hjd hbj
            rw [HI.out] at this
            exact this
          have e3 := cl_args0 l a (outB (orB b i) j) (sel l.ks b).length
          have := ih (outB (orB b i) j) (q + j * U (l.n - (a + 1))) wr.drew (outOf_lt hb hid) (by rw [e1]; exact hm) (by have := HP.out.g.size; show l.L ≤ wr.heap.size; omega) HP.out.st.drew (U_loop HHQ.out ha (by omega)).1
          rw [e1, e3] at this
          exact this
        have HC := Lib.hid HC0
        clear HC0 hbj
        go_wp2_with fail
        refine wp_region_noPanic ?_
        refine wp_region_held_drew (S := fun w' => w'.cell? ⟨l.bF, 0, none⟩ = some (.func (.func 42) #[] #[.pointer (some ⟨l.bT, 0, none⟩), .pointer (some ⟨l.bKv, 0, none⟩), .pointer (some ⟨l.bNv, 0, none⟩), .pointer (some ⟨l.bF, 0, none⟩), .pointer (some ⟨l.bS, 0, none⟩)]) ∧ w'.cell? ⟨w.heap.size + 2, 0, none⟩ = some (.int .i64 ((a : Int) + 1)) ∧ w'.cell? ⟨w.heap.size + 2, 1, none⟩ = some (.int .u16 (orB b i))) (by kernel_rfl) ⟨hFr, m0, m1⟩ (fun hHeld => ?_)
        refine wpAnyH_take (i := 1) (v := .func (.func 42) #[] #[.pointer (some ⟨l.bT, 0, none⟩), .pointer (some ⟨l.bKv, 0, none⟩), .pointer (some ⟨l.bNv, 0, none⟩), .pointer (some ⟨l.bF, 0, none⟩), .pointer (some ⟨l.bS, 0, none⟩)]) rfl (by kernel_rfl) (by kernel_rfl) (by kernel_rfl) (fun _ _ _ h => h) (Or.inl ⟨by rfl, ?_⟩) hHeld ?_
        · intro w hSw
          go_simp
        simp only [Act.put, List.setIfInBounds_toArray, List.set_cons_zero, List.set_cons_succ]
        refine wpAnyH_take (i := 2) (v := .pointer (some ⟨w.heap.size + 2, 0, none⟩)) rfl (by kernel_rfl) (by kernel_rfl) (by kernel_rfl) (fun _ _ _ h => h) (Or.inl ⟨by rfl, ?_⟩) hHeld ?_
        · intro w hSw
          go_simp
        simp only [Act.put, List.setIfInBounds_toArray, List.set_cons_zero, List.set_cons_succ]
        refine wpAnyH_take (i := 3) (v := .int .i64 ((a : Int) + 1)) rfl (by kernel_rfl) (by kernel_rfl) (by kernel_rfl) (fun _ _ _ h => h) (Or.inl ⟨by rfl, ?_⟩) hHeld ?_
        · intro w hSw
          go_simp
        simp only [Act.put, List.setIfInBounds_toArray, List.set_cons_zero, List.set_cons_succ]
        refine wpAnyH_take (i := 4) (v := .pointer (some ⟨w.heap.size + 2, 1, none⟩)) rfl (by kernel_rfl) (by kernel_rfl) (by kernel_rfl) (fun _ _ _ h => h) (Or.inl ⟨by rfl, ?_⟩) hHeld ?_
        · intro w hSw
          go_simp
        simp only [Act.put, List.setIfInBounds_toArray, List.set_cons_zero, List.set_cons_succ]
        refine wpAnyH_take (i := 5) (v := .int .u16 (orB b i)) rfl (by kernel_rfl) (by kernel_rfl) (by kernel_rfl) (fun _ _ _ h => h) (Or.inl ⟨by rfl, ?_⟩) hHeld ?_
        · intro w hSw
          go_simp
        simp only [Act.put, List.setIfInBounds_toArray, List.set_cons_zero, List.set_cons_succ]
        refine wpAnyH_take (i := 6) (v := .int .i64 j) rfl (by kernel_rfl) (by kernel_rfl) (by kernel_rfl) (fun _ _ _ h => h) (Or.inl ⟨by rfl, ?_⟩) hHeld ?_
        · intro w hSw
          go_simp
        simp only [Act.put, List.setIfInBounds_toArray, List.set_cons_zero, List.set_cons_succ]
        refine wpAnyH_take (i := 7) (v := .int .u16 (pw j)) rfl (by kernel_rfl) (by kernel_rfl) (by kernel_rfl) (fun _ _ _ h => h) (Or.inl ⟨by rfl, ?_⟩) hHeld ?_
        · intro w hSw
          go_simp
        simp only [Act.put, List.setIfInBounds_toArray, List.set_cons_zero, List.set_cons_succ]
        refine wpAnyH_take (i := 8) (v := .int .u16 (outB (orB b i) j)) rfl (by kernel_rfl) (by kernel_rfl) (by kernel_rfl) (fun _ _ _ h => h) (Or.inl ⟨by rfl, ?_⟩) hHeld ?_
        · intro w hSw
          go_simp
        simp only [Act.put, List.setIfInBounds_toArray, List.set_cons_zero, List.set_cons_succ]
        refine wpAnyH_take (i := 9) (v := .agg #[.int .i64 ((a : Int) + 1), .int .u16 (outB (orB b i) j)]) rfl (by kernel_rfl) (by kernel_rfl) (by kernel_rfl) (fun _ _ _ h => h) (Or.inl ⟨by rfl, ?_⟩) hHeld ?_
        · intro w hSw
          go_simp
        simp only [Act.put, List.setIfInBounds_toArray, List.set_cons_zero, List.set_cons_succ]
        refine wpAnyH_take (i := 10) (v := .int .i64 (sel l.ks b).length) rfl (by kernel_rfl) (by kernel_rfl) (by kernel_rfl) (fun _ _ _ h => h) (Or.inl ⟨by rfl, ?_⟩) hHeld ?_
        · intro w hSw
          go_simp
        simp only [Act.put, List.setIfInBounds_toArray, List.set_cons_zero, List.set_cons_succ]
        refine wpAnyH_ready (rs := [0, 11]) (by kernel_rfl) (by simp) ?_
        refine two_ways (o0 := { dst := some 76, op := Op.load 3 (Operand.tmp 9), type := 3, pos := "belady.go:137", after := #[], guard := none }) (o1 := { dst := some 87, op := Op.call { callee := Callee.value (Operand.tmp 77), args := #[Operand.tmp 85, Operand.tmp 86], argTypes := #[79, 3] }, type := 3, pos := "belady.go:137", after := #[{ on := 1, ground := Ground.data }, { on := 9, ground := Ground.data }, { on := 10, ground := Ground.data }], guard := none }) rfl rfl (fun K hK => ?_) (fun K hK => ?_)
        · go_simp
          refine hK.out _ _ ⟨hFr, m0, m1⟩ (fun hHeld => ?_)
          clear hK K
          try simp only [Act.put, List.setIfInBounds_toArray, List.set_cons_zero, List.set_cons_succ]
          refine wpAnyH_ready (rs := [11]) (by kernel_rfl) (by simp) ?_
          refine AllReadyH.cons (o := { dst := some 87, op := Op.call { callee := Callee.value (Operand.tmp 77), args := #[Operand.tmp 85, Operand.tmp 86], argTypes := #[79, 3] }, type := 3, pos := "belady.go:137", after := #[{ on := 1, ground := Ground.data }, { on := 9, ground := Ground.data }, { on := 10, ground := Ground.data }], guard := none }) rfl (fun K hK => ?_) AllReadyH.nil
          go_simp
          refine HC.out.mono ?_
          rintro e w5 ⟨rfl, hs5, hg5⟩
          have lp5 := HP.out.step hs5 hg5 hbK
          have c5 := lp5.k1.cell 0
          have f5 := lp5.k1.frozen 0
          have m50 := lp5.k2.cell 0
          have m51 := lp5.k2.cell 1
          have hF5 := lp5.st.F.cell 0
          simp only [List.getElem?_toArray, List.getElem?_cons_zero, List.getElem?_cons_succ] at c5 m50 m51 hF5
          unfold Lay.fn at hF5
          refine hK.out _ _ ⟨hF5, m50, m51⟩ (fun hHeld => ?_)
          clear hK K
          try simp only [Act.put, List.setIfInBounds_toArray, List.set_cons_zero, List.set_cons_succ]
          refine wpAnyH_ready (rs := [12]) (by kernel_rfl) (by simp) ?_
          refine AllReadyH.cons (o := { dst := some 88, op := Op.call { callee := Callee.builtin Builtin.max, args := #[Operand.tmp 76, Operand.tmp 87], argTypes := #[3, 3] }, type := 3, pos := "belady.go:137", after := #[{ on := 0, ground := Ground.data }, { on := 11, ground := Ground.data }], guard := none }) rfl (fun K hK => ?_) AllReadyH.nil
          go_simp
          refine hK.out _ _ ⟨hF5, m50, m51⟩ (fun hHeld => ?_)
          clear hK K
          try simp only [Act.put, List.setIfInBounds_toArray, List.set_cons_zero, List.set_cons_succ]
          refine wpAnyH_ready (rs := [13]) (by kernel_rfl) (by simp) ?_
          refine AllReadyH.cons (o := { dst := none, op := Op.store 3 (Operand.tmp 9) (Operand.tmp 88), type := 0, pos := "belady.go:137", after := #[{ on := 12, ground := Ground.data }, { on := 11, ground := Ground.chain }, { on := 0, ground := Ground.phase }, { on := 1, ground := Ground.phase }, { on := 2, ground := Ground.phase }, { on := 3, ground := Ground.phase }, { on := 4, ground := Ground.phase }, { on := 5, ground := Ground.phase }, { on := 6, ground := Ground.phase }, { on := 7, ground := Ground.phase }, { on := 8, ground := Ground.phase }, { on := 9, ground := Ground.phase }, { on := 10, ground := Ground.phase }, { on := 11, ground := Ground.phase }, { on := 12, ground := Ground.phase }], guard := none }) rfl (fun K hK => ?_) AllReadyH.nil
          go_simp
          have lp6 := lp5.put hL HBJ.out _ (max_cast _ _)
          have m60 := lp6.k2.cell 0
          have m61 := lp6.k2.cell 1
          have hF6 := lp6.st.F.cell 0
          simp only [List.getElem?_toArray, List.getElem?_cons_zero, List.getElem?_cons_succ] at m60 m61 hF6
          unfold Lay.fn at hF6
          refine hK.out _ _ ⟨hF6, m60, m61⟩ (fun hHeld => ?_)
          clear hK K
          try simp only [Act.put, List.setIfInBounds_toArray, List.set_cons_zero, List.set_cons_succ]
          refine wpAnyH_done (by kernel_rfl) ?_ _
          refine NoPanic.normal ?_
          have HL5 := Lib.hid lp5
          clear lp5 lp6 m60 m61 hF6
          go_wp2
          all_goals
            go_roundw
            case rel => exact ⟨j + 1, by omega, by go_num, HL5.out.put hL HBJ.out _ (by rw [Nat.max_def]; split <;> omega)⟩
            case measure => simp [intOf]; omega
        · go_simp
          refine HC.out.mono ?_
          rintro e w5 ⟨rfl, hs5, hg5⟩
          have lp5 := HP.out.step hs5 hg5 hbK
          have c5 := lp5.k1.cell 0
          have f5 := lp5.k1.frozen 0
          have m50 := lp5.k2.cell 0
          have m51 := lp5.k2.cell 1
          have hF5 := lp5.st.F.cell 0
          simp only [List.getElem?_toArray, List.getElem?_cons_zero, List.getElem?_cons_succ] at c5 m50 m51 hF5
          unfold Lay.fn at hF5
          refine hK.out _ _ ⟨hF5, m50, m51⟩ (fun hHeld => ?_)
          clear hK K
          try simp only [Act.put, List.setIfInBounds_toArray, List.set_cons_zero, List.set_cons_succ]
          refine wpAnyH_ready (rs := [0]) (by kernel_rfl) (by simp) ?_
          refine AllReadyH.cons (o := { dst := some 76, op := Op.load 3 (Operand.tmp 9), type := 3, pos := "belady.go:137", after := #[], guard := none }) rfl (fun K hK => ?_) AllReadyH.nil
          go_simp
          refine hK.out _ _ ⟨hF5, m50, m51⟩ (fun hHeld => ?_)
          clear hK K
          try simp only [Act.put, List.setIfInBounds_toArray, List.set_cons_zero, List.set_cons_succ]
          refine wpAnyH_ready (rs := [12]) (by kernel_rfl) (by simp) ?_
          refine AllReadyH.cons (o := { dst := some 88, op := Op.call { callee := Callee.builtin Builtin.max, args := #[Operand.tmp 76, Operand.tmp 87], argTypes := #[3, 3] }, type := 3, pos := "belady.go:137", after := #[{ on := 0, ground := Ground.data }, { on := 11, ground := Ground.data }], guard := none }) rfl (fun K hK => ?_) AllReadyH.nil
          go_simp
          refine hK.out _ _ ⟨hF5, m50, m51⟩ (fun hHeld => ?_)
          clear hK K
          try simp only [Act.put, List.setIfInBounds_toArray, List.set_cons_zero, List.set_cons_succ]
          refine wpAnyH_ready (rs := [13]) (by kernel_rfl) (by simp) ?_
          refine AllReadyH.cons (o := { dst := none, op := Op.store 3 (Operand.tmp 9) (Operand.tmp 88), type := 0, pos := "belady.go:137", after := #[{ on := 12, ground := Ground.data }, { on := 11, ground := Ground.chain }, { on := 0, ground := Ground.phase }, { on := 1, ground := Ground.phase }, { on := 2, ground := Ground.phase }, { on := 3, ground := Ground.phase }, { on := 4, ground := Ground.phase }, { on := 5, ground := Ground.phase }, { on := 6, ground := Ground.phase }, { on := 7, ground := Ground.phase }, { on := 8, ground := Ground.phase }, { on := 9, ground := Ground.phase }, { on := 10, ground := Ground.phase }, { on := 11, ground := Ground.phase }, { on := 12, ground := Ground.phase }], guard := none }) rfl (fun K hK => ?_) AllReadyH.nil
          go_simp
          have lp6 := lp5.put hL HBJ.out _ (max_cast _ _)
          have m60 := lp6.k2.cell 0
          have m61 := lp6.k2.cell 1
          have hF6 := lp6.st.F.cell 0
          simp only [List.getElem?_toArray, List.getElem?_cons_zero, List.getElem?_cons_succ] at m60 m61 hF6
          unfold Lay.fn at hF6
          refine hK.out _ _ ⟨hF6, m60, m61⟩ (fun hHeld => ?_)
          clear hK K
          try simp only [Act.put, List.setIfInBounds_toArray, List.set_cons_zero, List.set_cons_succ]
          refine wpAnyH_done (by kernel_rfl) ?_ _
          refine NoPanic.normal ?_
          have HL5 := Lib.hid lp5
          clear lp5 lp6 m60 m61 hF6
          go_wp2
          all_goals
            go_roundw
            case rel => exact ⟨j + 1, by omega, by go_num, HL5.out.put hL HBJ.out _ (by rw [Nat.max_def]; split <;> omega)⟩
            case measure => simp [intOf]; omega
    · have hjd' : j = l.ks.length := by omega
      subst hjd'
      have hnl : ¬ ((l.ks.length : Int) < (l.ks.length : Int)) := by omega
      have c1 := lp.k1.cell 0
      have f1 := lp.k1.frozen 0
      simp only [List.getElem?_toArray, List.getElem?_cons_zero] at c1
      have hWe : loopW l.s l.tr l.ks a b i l.ks.length = W l.s l.tr l.ks a b := by
        have := loopW_all (s := l.s) (b := b) ok.nodup (by omega) hat (nth_eq hat).symm hmem (by rw [HI.out]; exact hbit) hroom
        rw [HI.out] at this
        exact this
      rw [hWe] at c1
      have HP := Lib.hid lp
      have HWe := Lib.hid hWe
      clear lp hlen hF s0 s1 hNv hWe
      go_wp2
      refine leaves_cons (f := 43) (args := #[.pointer (some ⟨w.heap.size + 1, 0, none⟩), .pointer (some ⟨l.bKv, 0, none⟩), .pointer (some ⟨w.heap.size, 0, none⟩)]) (by simp) (by simp [go_sem]) ?_
      have hb6 : Below l.L wr (wr.setCell ⟨w.heap.size + 1, 0, none⟩ (.int .i64 (W l.s l.tr l.ks a b : Int))) := (Below.refl _ wr).setCell (by simp; omega) _
      have k1' := HP.out.k1.set_ 0 (.int .i64 (W l.s l.tr l.ks a b : Int))
      have k0' := HP.out.k0.far (p := ⟨w.heap.size + 1, 0, none⟩) (by simp) (.int .i64 (W l.s l.tr l.ks a b : Int))
      have HQL := Lib.hid (U_last HHQ.out ha h14)
      refine (keep_any l (q + l.ks.length * U (l.n - (a + 1))) a b (w.heap.size + 1) w.heap.size .returning _ (HP.out.st.below hb6) HA14.out HB14.out HT14.out HQL.out.1 (by simpa using k1') k0').mono ?_
      rintro e u' w7 ⟨rfl, rfl, hs7, hg7⟩
      have k7 := k1'.grown hg7 (by simp; omega)
      have c7 := k7.cell 0
      refine ⟨_, res42 (x := w.heap.size + 1) (v := (W l.s l.tr l.ks a b : Int)) _ _ rfl (by simpa using c7), ?_⟩
      refine ⟨rfl, hs7.mono HQL.out.2, ?_⟩
      exact (grew_set HP.out.g (p := ⟨w.heap.size + 1, 0, none⟩) (by simp) _).andThen hg7 (fun j hj => Or.inr hj)
end Go.Proofs.Ythclmacnmbmepaa
