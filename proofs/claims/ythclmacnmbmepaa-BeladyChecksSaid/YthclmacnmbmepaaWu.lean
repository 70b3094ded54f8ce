import Derived.Test.YthclmacnmbmepaaWt
namespace Go.Proofs.Ythclmacnmbmepaa
open Go.RowKit Bel Go.Maps Go.Shelf

theorem cl_args (l : Lay) (a ob m : Nat) : clArgs l ((a + 1 : Nat) : Int) ob ((m + 1 : Nat) : Int) = #[.agg #[.int .i64 ((a : Int) + 1), .int .u16 ob], .int .i64 ((m : Int) + 1), .pointer (some ⟨l.bT, 0, none⟩), .pointer (some ⟨l.bKv, 0, none⟩), .pointer (some ⟨l.bNv, 0, none⟩), .pointer (some ⟨l.bF, 0, none⟩), .pointer (some ⟨l.bS, 0, none⟩)] := rfl
set_option maxRecDepth 100000 in
set_option maxHeartbeats 2000000 in
/-- A miss with room. -/
theorem cl_room (l : Lay) (ok : Ok l) (a b q : Nat) (w : World) (v0 : Int) (ha : a < l.n) (hb : b < 2 ^ l.ks.length) (_hm : (sel l.ks b).length ≤ l.s) (hL : l.L ≤ w.heap.size) (hs : ST l w q) (hq : q + U (l.n - a) ≤ most)
    (hlk : (Instr.lookup 75 (.map (some l.bK)) (stv a b) true).run Try.prog (w2 w a b) = .ok (.tuple #[.int .i64 v0, .bool false]) (w2 w a b))
    (ih : ClAt l (a + 1)) (hbit : b.testBit (l.ks.idxOf (nth l.tr a)) = false) (hroom : (sel l.ks b).length < l.s) :
    Calls Try.prog 42 (clArgs l a b (sel l.ks b).length) w (clTo l a b q w) := by
  have hmf : ∀ (fn : Fn) (first cap : Array Value) (w : World), (Instr.makeFunc fn first cap).run Try.prog w = .ok (.func fn first cap) w := fun _ _ _ _ => rfl
  have hat : a < l.tr.length := by rw [ok.len]; exact ha
  have ha14 : a ≤ 14 := Nat.le_trans (Nat.le_of_lt ha) ok.n14
  have hb14 := lt14 hb ok.k14
  have ht14 : l.tr.length ≤ 14 := by rw [ok.len]; exact ok.n14
  have HQ := Lib.hid (U_room hq ha)
  have HA14 := Lib.hid ha14
  have HB14 := Lib.hid hb14
  have HT14 := Lib.hid ht14
  clear ha14 hb14 ht14 hq
  have hmem : nth l.tr a ∈ l.ks := ok.all _ (nth_mem hat)
  have hwf := ok.wf _ (nth_mem hat)
  have hid := List.idxOf_lt_length_of_mem hmem
  have h14 := ok.k14
  have hB2 : Below l.L w (w2 w a b) := ((Below.refl _ w).alloc hL _).alloc (by simp; omega) _
  have hs2 := hs.below hB2
  have hnl : ∀ q', (Instr.lookup 56 (.map (some l.bN)) (.int .u32 (nth l.tr a)) false).run Try.prog ((w2 w a b).drewN q') = .ok (.int .i64 (l.ks.idxOf (nth l.tr a))) ((w2 w a b).drewN q') := fun q' => (hs2.drewN q').N.look hwf hmem
  have hT := hs.T.cell 0
  have hKv := hs.Kv.cell 0
  have hNv := hs.Nv.cell 0
  have hF := hs.F.cell 0
  have hS := hs.S.cell 0
  simp only [List.getElem?_toArray, List.getElem?_cons_zero] at hT hKv hNv hF hS
  have hlt := hs.T.lt
  have hlt' := hs.Kv.lt
  have hlt2 := hs.Nv.lt
  have hlt3 := hs.F.lt
  have hlt4 := hs.S.lt
  have ha1 : ¬ (a : Int) = (l.n : Int) := by omega
  obtain ⟨b0, o0, hA, hbw, hc⟩ := hs.R.int_at ha
  have hbw' : b0 < w.heap.size := by have := hs.hB; omega
  have HS := Lib.hid hs
  have HS2 := Lib.hid hs2
  rw [hA] at hT
  have hk0 : (0 : Int) ≤ (a : Int) := Int.natCast_nonneg _
  have hk1 : (a : Int) < (l.n : Int) := by omega
  have HAX := Lib.hid hA
  generalize hi : l.ks.idxOf (nth l.tr a) = i at *
  unfold stv w2 at hlk
  unfold w2 at hnl
  have HI := Lib.hid hi
  have hpow := pow_wrap (i := i) (by omega)
  have hor := or_bits (b := b) (i := i) (lt16 hb h14) (by omega)
  have hand := and_bits (b := b) (i := i) (lt16 hb h14) (by omega)
  clear hs hs2 hA hi
  unfold clArgs
  go_enter_defers Try.func42, Try.ntmps42
  go_wp2_with fail
  go_quiet (fail)
  have hs3 := (HS2.out.drewN nq)
  have k0 : Blk ((w2 w a b).drewN nq) w.heap.size 79 #[.int .i64 a, .int .u16 b] := (Blk.new w 79 _).alloc _
  have k1 : Blk ((w2 w a b).drewN nq) (w.heap.size + 1) 3 #[.int .i64 0] := by
    have := Blk.new (w.alloc (.cells #[.int .i64 a, .int .u16 b] 79)) 3 #[.int .i64 0]
    simp only [World.size_alloc] at this
    exact this
  have hg3 : w.grownBy ((w2 w a b).drewN nq) (some l.bK) := grown_two w a b nq _
  have hsz : ((w2 w a b).drewN nq).heap.size = w.heap.size + 2 := by simp [w2]
  unfold w2 at hs3 k0 k1 hg3 hsz
  generalize ((w.alloc (.cells #[.int .i64 a, .int .u16 b] 79)).alloc (.cells #[.int .i64 0] 3)).drewN nq = W3 at *
  have s0 := k0.cell 0
  have s1 := k0.cell 1
  have f1 := k1.frozen 0
  have hF := hs3.F.cell 0
  have hw1 : wrap64 ((a : Int) + 1) = (a : Int) + 1 := wrap64_small (by omega) (by have := ok.n14; omega)
  simp only [List.getElem?_toArray, List.getElem?_cons_zero, List.getElem?_cons_succ] at s0 s1 hF
  unfold Lay.fn at hF
  have g1 : l.bF < w.heap.size + 2 := by omega
  have g2 : l.bS < w.heap.size + 2 := by omega
  have g3 : l.bNv < w.heap.size + 2 := by omega
  have g4 : w.heap.size < w.heap.size + 2 := by omega
  have hne : ((andB b i : Int) != 0) = false := by
    have := andB_zero hbit
    simp; omega
  have hS := hs3.S.cell 0
  simp only [List.getElem?_toArray, List.getElem?_cons_zero] at hS
  have hr1 : ((sel l.ks b).length : Int) < (l.s : Int) := by omega
  have hw3 : wrap64 (((sel l.ks b).length : Int) + 1) = ((sel l.ks b).length : Int) + 1 := wrap64_small (by omega) (by have := ok.s2; omega)
  have HK0 := Lib.hid k0
  have HK1 := Lib.hid k1
  have HG3 := Lib.hid hg3
  have HS3 := Lib.hid hs3
  clear k0 k1 hg3 hs3 hnl hlk
  go_wp2_with fail
  have hbK : l.bK < w.heap.size := by have := HS.out.hK; omega
  have hs4 : ST l (W3.alloc (.cells #[.int .i64 ((a : Int) + 1), .int .u16 (orB b i)] 79)) q := HS3.out.below ((Below.refl _ W3).alloc (by omega) _)
  have HC : Calls Try.prog 42 #[.agg #[.int .i64 ((a : Int) + 1), .int .u16 (orB b i)], .int .i64 (((sel l.ks b).length : Int) + 1), .pointer (some ⟨l.bT, 0, none⟩), .pointer (some ⟨l.bKv, 0, none⟩), .pointer (some ⟨l.bNv, 0, none⟩), .pointer (some ⟨l.bF, 0, none⟩), .pointer (some ⟨l.bS, 0, none⟩)]
      (W3.alloc (.cells #[.int .i64 ((a : Int) + 1), .int .u16 (orB b i)] 79)) (clTo l (a + 1) (orB b i) q (W3.alloc (.cells #[.int .i64 ((a : Int) + 1), .int .u16 (orB b i)] 79))) := by
    have e1 : (sel l.ks (orB b i)).length = (sel l.ks b).length + 1 := by unfold orB; rw [← HI.out]; exact sel_or_len ok.nodup hmem (by rw [HI.out]; exact hbit)
    have e3 := cl_args l a (orB b i) (sel l.ks b).length
    rw [← e1] at e3
    have := ih (orB b i) q (W3.alloc (.cells #[.int .i64 ((a : Int) + 1), .int .u16 (orB b i)] 79)) (or_lt hb hid) (by rw [e1]; exact hroom) (by rw [World.size_alloc, hsz]; omega) hs4 HQ.out.2.1
    rw [e3] at this
    exact this
  refine HC.mono ?_
  rintro e w5 ⟨rfl, hs5, hg5⟩
  have hsz4 : (W3.alloc (.cells #[.int .i64 ((a : Int) + 1), .int .u16 (orB b i)] 79)).heap.size = w.heap.size + 3 := by simp [hsz]
  have k0 := (HK0.out.alloc (.cells #[.int .i64 ((a : Int) + 1), .int .u16 (orB b i)] 79)).grown hg5 (by simp; omega)
  have k1 := (HK1.out.alloc (.cells #[.int .i64 ((a : Int) + 1), .int .u16 (orB b i)] 79)).grown hg5 (by simp; omega)
  have hgw := (HG3.out.andThen (World.grownBy_alloc W3 (.cells #[.int .i64 ((a : Int) + 1), .int .u16 (orB b i)] 79) none) (fun j hj => by cases hj)).andThen hg5 (fun j hj => Or.inr hj)
  have f1 := k1.frozen 0
  have c1 := k1.cell 0
  simp only [List.getElem?_toArray, List.getElem?_cons_zero] at c1
  have hWe : W l.s l.tr l.ks a b = W l.s l.tr l.ks (a + 1) (orB b i) := by
    have := W_room (s := l.s) (ks := l.ks) (b := b) ok.nodup hat (nth_eq hat).symm hmem (by rw [HI.out]; exact hbit) hroom
    rw [HI.out] at this
    exact this
  have hWle := W_le l.s l.tr l.ks (a + 1) (orB b i)
  rw [ok.len] at hWle
  have HS5 := Lib.hid hs5
  have HK0 := Lib.hid k0
  have HK1 := Lib.hid k1
  have HGW := Lib.hid hgw
  clear hs5 k0 k1 hgw hg5 HC hs4 hsz4
  go_wp2
  refine leaves_cons (f := 43) (args := #[.pointer (some ⟨w.heap.size + 1, 0, none⟩), .pointer (some ⟨l.bKv, 0, none⟩), .pointer (some ⟨w.heap.size, 0, none⟩)]) (by simp) (by simp [go_sem]) ?_
  have hb6 : Below l.L w5 (w5.setCell ⟨w.heap.size + 1, 0, none⟩ (.int .i64 ((W l.s l.tr l.ks (a + 1) (orB b i) : Int)))) := (Below.refl _ w5).setCell (by simp; omega) _
  have k1' := HK1.out.set_ 0 (.int .i64 ((W l.s l.tr l.ks (a + 1) (orB b i) : Int)))
  have k0' := HK0.out.far (p := ⟨w.heap.size + 1, 0, none⟩) (by simp) (.int .i64 ((W l.s l.tr l.ks (a + 1) (orB b i) : Int)))
  refine (keep_any l (q + U (l.n - (a + 1))) a b (w.heap.size + 1) w.heap.size .returning _ (HS5.out.below hb6) HA14.out HB14.out HT14.out HQ.out.1 (by rw [hWe]; simpa using k1') k0').mono ?_
  rintro e u' w7 ⟨rfl, rfl, hs7, hg7⟩
  have k7 := k1'.grown hg7 (by simp; omega)
  have c7 := k7.cell 0
  refine ⟨_, res42 (x := w.heap.size + 1) (v := (W l.s l.tr l.ks (a + 1) (orB b i) : Int)) _ _ rfl (by simpa using c7), ?_⟩
  refine ⟨by rw [hWe], hs7.mono HQ.out.2.2, ?_⟩
  exact (grew_set HGW.out (p := ⟨w.heap.size + 1, 0, none⟩) (by simp) _).andThen hg7 (fun j hj => Or.inr hj)
end Go.Proofs.Ythclmacnmbmepaa
