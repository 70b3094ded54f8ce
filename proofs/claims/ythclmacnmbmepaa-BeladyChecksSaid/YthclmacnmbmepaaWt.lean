import Derived.Test.YthclmacnmbmepaaWs
namespace Go.Proofs.Ythclmacnmbmepaa
open Go.RowKit Bel Go.Maps Go.Shelf

/-- More changes than the memo ever sees. -/
def most : Nat := 1152921504606846976
theorem most_lt : most < maxLen := by unfold most maxLen; decide
theorem lt14 {b d : Nat} (h : b < 2 ^ d) (hd : d ≤ 14) : b < 2 ^ 14 := Nat.lt_of_lt_of_le h (Nat.pow_le_pow_right (by omega) hd)
def U : Nat → Nat
  | 0 => 0
  | m + 1 => 1 + 14 * U m
theorem U_step {n a : Nat} (h : a < n) : U (n - a) = 1 + 14 * U (n - (a + 1)) := by
  obtain ⟨m, hm⟩ : ∃ m, n - a = m + 1 := ⟨n - a - 1, by omega⟩
  have : n - (a + 1) = m := by omega
  rw [hm, this]; rfl
theorem U_room {q n a : Nat} (hq : q + U (n - a) ≤ most) (ha : a < n) : q + U (n - (a + 1)) < maxLen ∧ q + U (n - (a + 1)) ≤ most ∧ q + U (n - (a + 1)) + 1 ≤ q + U (n - a) := by
  have hU := U_step ha
  exact ⟨Nat.lt_of_le_of_lt (by omega) most_lt, by omega, by omega⟩
theorem one_add (n : Nat) : ((1 + n : Nat) : Int) = 1 + (n : Int) := by push_cast; rfl
/-- What holds of a layout. -/
structure Ok (l : Lay) : Prop where
  len : l.tr.length = l.n
  n14 : l.n ≤ 14
  nodup : l.ks.Nodup
  all : ∀ x ∈ l.tr, x ∈ l.ks
  k14 : l.ks.length ≤ 14
  wf : ∀ x ∈ l.tr, (Lit.int .u32 x).wf = true
  s1 : 1 ≤ l.s
  s2 : l.s ≤ 1024
def clTo (l : Lay) (a b q : Nat) (w : World) (e : Ending) (w' : World) : Prop :=
  e = .returned (.int .i64 (W l.s l.tr l.ks a b)) ∧ ST l w' (q + U (l.n - a)) ∧ w.grownBy w' (some l.bK)
def clArgs (l : Lay) (a b : Int) (m : Int) : Array Value :=
  #[.agg #[.int .i64 a, .int .u16 b], .int .i64 m, .pointer (some ⟨l.bT, 0, none⟩), .pointer (some ⟨l.bKv, 0, none⟩), .pointer (some ⟨l.bNv, 0, none⟩), .pointer (some ⟨l.bF, 0, none⟩), .pointer (some ⟨l.bS, 0, none⟩)]
def ClAt (l : Lay) (a : Nat) : Prop :=
  ∀ (b q : Nat) (w : World), b < 2 ^ l.ks.length → (sel l.ks b).length ≤ l.s → l.L ≤ w.heap.size → ST l w q → q + U (l.n - a) ≤ most →
    Calls Try.prog 42 (clArgs l a b (sel l.ks b).length) w (clTo l a b q w)

theorem grew_set {w w1 : World} {row : Option Nat} (h : w.grownBy w1 row) {p : Addr} (hp : w.heap.size ≤ p.block) (u : Value) : w.grownBy (w1.setCell p u) row := by
  obtain ⟨h1, h2, h3, h4, h5⟩ := h
  refine ⟨h1, h2, h3, by simpa using h4, fun k hk hne => ?_⟩
  rw [heap_setCell_other _ _ _ _ (by omega)]
  exact h5 k hk hne

theorem res42 {x : Nat} {v : Int} (tmps : Array Value) (w : World) (h : tmps[9]? = some (.pointer (some ⟨x, 0, none⟩))) (hc : w.cell? ⟨x, 0, none⟩ = some (.int .i64 v)) :
    (results Try.f42 tmps).run Try.prog w = .ok (.int .i64 v) w := by
  simp [results, Try.results42, go_sem, h, hc]
set_option maxRecDepth 100000 in
set_option maxHeartbeats 2000000 in
theorem cl_end (l : Lay) (ok : Ok l) : ClAt l l.n := by
  intro b q w hb hm hL hs hq
  have hmf : ∀ (fn : Fn) (first cap : Array Value) (w : World), (Instr.makeFunc fn first cap).run Try.prog w = .ok (.func fn first cap) w := fun _ _ _ _ => rfl
  have hT := hs.T.cell 0
  simp only [List.getElem?_toArray, List.getElem?_cons_zero] at hT
  have hlt := hs.T.lt
  have HS := Lib.hid hs
  clear hs hq
  unfold clArgs
  go_enter_defers Try.func42, Try.ntmps42
  go_wp2
  refine ⟨_, res42 (x := w.heap.size + 1) (v := 0) _ _ rfl (by simp), ?_⟩
  have hW : W l.s l.tr l.ks l.n b = 0 := W_end (by rw [ok.len]; exact Nat.le_refl _)
  have hb2 : Below l.L w ((w.alloc (Obj.cells #[Value.int IntKind.i64 l.n, Value.int IntKind.u16 b] 79)).alloc (Obj.cells #[Value.int IntKind.i64 0] 3)) := ((Below.refl _ w).alloc hL _).alloc (by simp; omega) _
  refine ⟨by rw [hW]; rfl, by rw [Nat.sub_self]; exact HS.out.below hb2, ?_⟩
  exact ((World.grownBy_alloc w _ _).andThen (World.grownBy_alloc _ _ none) (fun j hj => by cases hj))

def pw (i : Nat) : Nat := 2 ^ i
def orB (b i : Nat) : Nat := b ||| 2 ^ i
def andB (b i : Nat) : Nat := b &&& 2 ^ i
theorem lt16 {b d : Nat} (h : b < 2 ^ d) (hd : d ≤ 14) : b < 65536 := Nat.lt_of_lt_of_le h (Nat.pow_le_pow_right (by omega) (by omega : d ≤ 16))
theorem pw_lt {i : Nat} (h : i < 14) : pw i < 65536 := by
  unfold pw
  exact Nat.pow_lt_pow_right (by omega) (by omega : i < 16)
theorem pow_wrap {i : Nat} (h : i < 14) : IntKind.u16.wrap ((2 : Int) ^ i) = (pw i : Int) := by
  have h1 := pw_lt h
  have h2 : ((2 : Int) ^ i) = (pw i : Int) := by unfold pw; push_cast; rfl
  rw [h2, IntKind.wrap_u16]
  omega
theorem or_bits {b i : Nat} (hb : b < 65536) (h : i < 14) : bits .or .u16 (b : Int) (pw i : Int) = (orB b i : Int) := u16_or_nat b (pw i) hb (pw_lt h)
theorem and_bits {b i : Nat} (hb : b < 65536) (h : i < 14) : bits .and .u16 (b : Int) (pw i : Int) = (andB b i : Int) := u16_and_nat b (pw i) hb (pw_lt h)
theorem andB_ne {b i : Nat} (h : b.testBit i = true) : andB b i ≠ 0 := fun e => by
  have h1 : (andB b i).testBit i = true := by unfold andB; rw [Nat.testBit_and, h, Nat.testBit_two_pow]; simp
  rw [e] at h1
  simp at h1
theorem andB_zero {b i : Nat} (h : b.testBit i = false) : andB b i = 0 := by
  apply Nat.eq_of_testBit_eq
  intro k
  unfold andB
  rw [Nat.testBit_and, Nat.testBit_two_pow, Nat.zero_testBit]
  by_cases e : i = k
  · subst e; rw [h]; rfl
  · simp [e]
theorem wrap64_small {x : Int} (h0 : 0 ≤ x) (h1 : x ≤ 1000000) : wrap64 x = x := by
  unfold wrap64; omega
/-- The world behind the closure's first lines. -/
def w2 (w : World) (a b : Nat) : World := (w.alloc (.cells #[.int .i64 a, .int .u16 b] 79)).alloc (.cells #[.int .i64 0] 3)
theorem ST.mono {l : Lay} {w : World} {q q' : Nat} (h : ST l w q) (hq : q ≤ q') : ST l w q' := ⟨h.T, h.S, h.Nv, h.N, h.Kv, h.F, h.K.mono hq, h.R, h.hB, h.hT, h.hS, h.hNv, h.hN, h.hKv, h.hF, h.hK, h.kB, h.nNK⟩
set_option maxRecDepth 100000 in
set_option maxHeartbeats 2000000 in
/-- What is known is given back. -/
theorem cl_known (l : Lay) (a b q : Nat) (w : World) (ha : a < l.n) (hL : l.L ≤ w.heap.size) (hs : ST l w q)
    (hlk : (Instr.lookup 75 (.map (some l.bK)) (stv a b) true).run Try.prog (w2 w a b) = .ok (.tuple #[.int .i64 (W l.s l.tr l.ks a b), .bool true]) (w2 w a b)) :
    Calls Try.prog 42 (clArgs l a b (sel l.ks b).length) w (clTo l a b q w) := by
  have hT := hs.T.cell 0
  have hKv := hs.Kv.cell 0
  simp only [List.getElem?_toArray, List.getElem?_cons_zero] at hT hKv
  have hlt := hs.T.lt
  have hlt' := hs.Kv.lt
  have ha1 : ¬ (a : Int) = (l.n : Int) := by omega
  have HS := Lib.hid hs
  unfold stv w2 at hlk
  clear hs
  unfold clArgs
  go_enter_defers Try.func42, Try.ntmps42
  go_wp2
  refine ⟨_, res42 (x := w.heap.size + 1) (v := (W l.s l.tr l.ks a b : Int)) _ _ rfl (by simp), ?_⟩
  have hb2 : Below l.L w ((w.alloc (Obj.cells #[Value.int IntKind.i64 a, Value.int IntKind.u16 b] 79)).alloc (Obj.cells #[Value.int IntKind.i64 (W l.s l.tr l.ks a b)] 3)) := ((Below.refl _ w).alloc hL _).alloc (by simp; omega) _
  refine ⟨rfl, (HS.out.below hb2).mono (by omega), ?_⟩
  exact ((World.grownBy_alloc w _ _).andThen (World.grownBy_alloc _ _ none) (fun j hj => by cases hj))

theorem grown_two (w : World) (a b nq : Nat) (row : Option Nat) : w.grownBy ((w2 w a b).drewN nq) row := by
  have h : w.grownBy (w2 w a b) row := (World.grownBy_alloc w _ _).andThen (World.grownBy_alloc _ _ none) (fun j hj => by cases hj)
  exact ⟨h.os, h.tape, h.output, h.size, h.block⟩
set_option maxRecDepth 100000 in
set_option maxHeartbeats 2000000 in
/-- A hit. -/
theorem cl_hit (l : Lay) (ok : Ok l) (a b q : Nat) (w : World) (v0 : Int) (ha : a < l.n) (hb : b < 2 ^ l.ks.length) (hm : (sel l.ks b).length ≤ l.s) (hL : l.L ≤ w.heap.size) (hs : ST l w q) (hq : q + U (l.n - a) ≤ most)
    (hlk : (Instr.lookup 75 (.map (some l.bK)) (stv a b) true).run Try.prog (w2 w a b) = .ok (.tuple #[.int .i64 v0, .bool false]) (w2 w a b))
    (ih : ClAt l (a + 1)) (hbit : b.testBit (l.ks.idxOf (nth l.tr a)) = true) :
    Calls Try.prog 42 (clArgs l a b (sel l.ks b).length) w (clTo l a b q w) := by
  have hmf : ∀ (fn : Fn) (first cap : Array Value) (w : World), (Instr.makeFunc fn first cap).run Try.prog w = .ok (.func fn first cap) w := fun _ _ _ _ => rfl
  have hat : a < l.tr.length := by rw [ok.len]; exact ha
  have ha14 : a ≤ 14 := Nat.le_trans (Nat.le_of_lt ha) ok.n14
  have hb14 := lt14 hb ok.k14
  have ht14 : l.tr.length ≤ 14 := by rw [ok.len]; exact ok.n14
  have HQ := Lib.hid (U_room hq ha)
  have HA14 := Lib.hid ha14
  have HB14 := Lib.hid hb14
  have HT14 := Lib.hid ht14
  clear ha14 hb14 ht14 hq
  have hmem : nth l.tr a ∈ l.ks := ok.all _ (nth_mem hat)
  have hwf := ok.wf _ (nth_mem hat)
  have hid := List.idxOf_lt_length_of_mem hmem
  have h14 := ok.k14
  have hB2 : Below l.L w (w2 w a b) := ((Below.refl _ w).alloc hL _).alloc (by simp; omega) _
  have hs2 := hs.below hB2
  have hnl : ∀ q', (Instr.lookup 56 (.map (some l.bN)) (.int .u32 (nth l.tr a)) false).run Try.prog ((w2 w a b).drewN q') = .ok (.int .i64 (l.ks.idxOf (nth l.tr a))) ((w2 w a b).drewN q') := fun q' => (hs2.drewN q').N.look hwf hmem
  have hT := hs.T.cell 0
  have hKv := hs.Kv.cell 0
  have hNv := hs.Nv.cell 0
  have hF := hs.F.cell 0
  have hS := hs.S.cell 0
  simp only [List.getElem?_toArray, List.getElem?_cons_zero] at hT hKv hNv hF hS
  have hlt := hs.T.lt
  have hlt' := hs.Kv.lt
  have hlt2 := hs.Nv.lt
  have hlt3 := hs.F.lt
  have hlt4 := hs.S.lt
  have ha1 : ¬ (a : Int) = (l.n : Int) := by omega
  obtain ⟨b0, o0, hA, hbw, hc⟩ := hs.R.int_at ha
  have hbw' : b0 < w.heap.size := by have := hs.hB; omega
  have HS := Lib.hid hs
  have HS2 := Lib.hid hs2
  rw [hA] at hT
  have hk0 : (0 : Int) ≤ (a : Int) := Int.natCast_nonneg _
  have hk1 : (a : Int) < (l.n : Int) := by omega
  have HAX := Lib.hid hA
  generalize hi : l.ks.idxOf (nth l.tr a) = i at *
  unfold stv w2 at hlk
  unfold w2 at hnl
  have HI := Lib.hid hi
  have hpow := pow_wrap (i := i) (by omega)
  have hor := or_bits (b := b) (i := i) (lt16 hb h14) (by omega)
  have hand := and_bits (b := b) (i := i) (lt16 hb h14) (by omega)
  clear hs hs2 hA hi
  unfold clArgs
  go_enter_defers Try.func42, Try.ntmps42
  go_wp2_with fail
  go_quiet (fail)
  have hs3 := (HS2.out.drewN nq)
  have k0 : Blk ((w2 w a b).drewN nq) w.heap.size 79 #[.int .i64 a, .int .u16 b] := (Blk.new w 79 _).alloc _
  have k1 : Blk ((w2 w a b).drewN nq) (w.heap.size + 1) 3 #[.int .i64 0] := by
    have := Blk.new (w.alloc (.cells #[.int .i64 a, .int .u16 b] 79)) 3 #[.int .i64 0]
    simp only [World.size_alloc] at this
    exact this
  have hg3 : w.grownBy ((w2 w a b).drewN nq) (some l.bK) := grown_two w a b nq _
  have hsz : ((w2 w a b).drewN nq).heap.size = w.heap.size + 2 := by simp [w2]
  unfold w2 at hs3 k0 k1 hg3 hsz
  generalize ((w.alloc (.cells #[.int .i64 a, .int .u16 b] 79)).alloc (.cells #[.int .i64 0] 3)).drewN nq = W3 at *
  have s0 := k0.cell 0
  have s1 := k0.cell 1
  have f1 := k1.frozen 0
  have hF := hs3.F.cell 0
  have hw1 : wrap64 ((a : Int) + 1) = (a : Int) + 1 := wrap64_small (by omega) (by have := ok.n14; omega)
  simp only [List.getElem?_toArray, List.getElem?_cons_zero, List.getElem?_cons_succ] at s0 s1 hF
  unfold Lay.fn at hF
  have g1 : l.bF < w.heap.size + 2 := by omega
  have g2 : l.bS < w.heap.size + 2 := by omega
  have g3 : l.bNv < w.heap.size + 2 := by omega
  have g4 : w.heap.size < w.heap.size + 2 := by omega
  have hne : ((andB b i : Int) != 0) = true := by
    have := andB_ne hbit
    simp; omega
  have HK0 := Lib.hid k0
  have HK1 := Lib.hid k1
  have HG3 := Lib.hid hg3
  have HS3 := Lib.hid hs3
  clear k0 k1 hg3 hs3 hnl hlk
  go_wp2_with fail
  have hbK : l.bK < w.heap.size := by have := HS.out.hK; omega
  have hs4 : ST l (W3.alloc (.cells #[.int .i64 ((a : Int) + 1), .int .u16 (orB b i)] 79)) q := HS3.out.below ((Below.refl _ W3).alloc (by omega) _)
  have HC : Calls Try.prog 42 #[.agg #[.int .i64 ((a : Int) + 1), .int .u16 (orB b i)], .int .i64 (sel l.ks b).length, .pointer (some ⟨l.bT, 0, none⟩), .pointer (some ⟨l.bKv, 0, none⟩), .pointer (some ⟨l.bNv, 0, none⟩), .pointer (some ⟨l.bF, 0, none⟩), .pointer (some ⟨l.bS, 0, none⟩)]
      (W3.alloc (.cells #[.int .i64 ((a : Int) + 1), .int .u16 (orB b i)] 79)) (clTo l (a + 1) (orB b i) q (W3.alloc (.cells #[.int .i64 ((a : Int) + 1), .int .u16 (orB b i)] 79))) := by
    have e1 : sel l.ks (orB b i) = sel l.ks b := by unfold orB; rw [← HI.out, or_same (by rw [HI.out]; exact hbit)]
    have := ih (orB b i) q (W3.alloc (.cells #[.int .i64 ((a : Int) + 1), .int .u16 (orB b i)] 79)) (or_lt hb hid) (by rw [e1]; exact hm) (by simp; omega) hs4 HQ.out.2.1
    rw [e1] at this
    exact this
  refine HC.mono ?_
  rintro e w5 ⟨rfl, hs5, hg5⟩
  have hsz4 : (W3.alloc (.cells #[.int .i64 ((a : Int) + 1), .int .u16 (orB b i)] 79)).heap.size = w.heap.size + 3 := by simp [hsz]
  have k0 := (HK0.out.alloc (.cells #[.int .i64 ((a : Int) + 1), .int .u16 (orB b i)] 79)).grown hg5 (by simp; omega)
  have k1 := (HK1.out.alloc (.cells #[.int .i64 ((a : Int) + 1), .int .u16 (orB b i)] 79)).grown hg5 (by simp; omega)
  have hgw := (HG3.out.andThen (World.grownBy_alloc W3 (.cells #[.int .i64 ((a : Int) + 1), .int .u16 (orB b i)] 79) none) (fun j hj => by cases hj)).andThen hg5 (fun j hj => Or.inr hj)
  have f1 := k1.frozen 0
  have c1 := k1.cell 0
  simp only [List.getElem?_toArray, List.getElem?_cons_zero] at c1
  have hWe : W l.s l.tr l.ks a b = 1 + W l.s l.tr l.ks (a + 1) (orB b i) := by
    have := W_hit (s := l.s) (ks := l.ks) (b := b) hat (nth_eq hat).symm hmem (by rw [HI.out]; exact hbit)
    rw [HI.out] at this
    exact this
  have hWle := W_le l.s l.tr l.ks (a + 1) (orB b i)
  rw [ok.len] at hWle
  have hw2 : wrap64 (1 + (W l.s l.tr l.ks (a + 1) (orB b i) : Int)) = 1 + (W l.s l.tr l.ks (a + 1) (orB b i) : Int) := wrap64_small (by omega) (by have := ok.n14; omega)
  have HS5 := Lib.hid hs5
  have HK0 := Lib.hid k0
  have HK1 := Lib.hid k1
  have HGW := Lib.hid hgw
  clear hs5 k0 k1 hgw hg5 HC hs4 hsz4
  go_wp2
  refine leaves_cons (f := 43) (args := #[.pointer (some ⟨w.heap.size + 1, 0, none⟩), .pointer (some ⟨l.bKv, 0, none⟩), .pointer (some ⟨w.heap.size, 0, none⟩)]) (by simp) (by simp [go_sem]) ?_
  have hb6 : Below l.L w5 (w5.setCell ⟨w.heap.size + 1, 0, none⟩ (.int .i64 (1 + (W l.s l.tr l.ks (a + 1) (orB b i) : Int)))) := (Below.refl _ w5).setCell (by simp; omega) _
  have k1' := HK1.out.set_ 0 (.int .i64 (1 + (W l.s l.tr l.ks (a + 1) (orB b i) : Int)))
  have k0' := HK0.out.far (p := ⟨w.heap.size + 1, 0, none⟩) (by simp) (.int .i64 (1 + (W l.s l.tr l.ks (a + 1) (orB b i) : Int)))
  refine (keep_any l (q + U (l.n - (a + 1))) a b (w.heap.size + 1) w.heap.size .returning _ (HS5.out.below hb6) HA14.out HB14.out HT14.out HQ.out.1 (by rw [hWe]; simpa using k1') k0').mono ?_
  rintro e u' w7 ⟨rfl, rfl, hs7, hg7⟩
  have k7 := k1'.grown hg7 (by simp; omega)
  have c7 := k7.cell 0
  refine ⟨_, res42 (x := w.heap.size + 1) (v := 1 + (W l.s l.tr l.ks (a + 1) (orB b i) : Int)) _ _ rfl (by simpa using c7), ?_⟩
  refine ⟨by rw [hWe, one_add], hs7.mono HQ.out.2.2, ?_⟩
  exact (grew_set HGW.out (p := ⟨w.heap.size + 1, 0, none⟩) (by simp) _).andThen hg7 (fun j hj => Or.inr hj)
end Go.Proofs.Ythclmacnmbmepaa
