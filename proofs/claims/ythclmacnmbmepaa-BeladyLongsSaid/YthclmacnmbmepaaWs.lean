import Derived.Test.YthclmacnmbmepaaWr
namespace Go.Proofs.Ythclmacnmbmepaa
open Go.RowKit Bel Go.Maps Go.Shelf

/-- Where the closure's variables lie. -/
structure Lay where
  s : Nat
  n : Nat
  c : Nat
  A : Option Addr
  tr : List Int
  ks : List Int
  B : Nat
  L : Nat
  bT : Nat
  bS : Nat
  bNv : Nat
  bN : Nat
  bKv : Nat
  bK : Nat
  bF : Nat
  nN : Nat
def Lay.fn (l : Lay) : Value := .func (.func 42) #[] #[.pointer (some ⟨l.bT, 0, none⟩), .pointer (some ⟨l.bKv, 0, none⟩), .pointer (some ⟨l.bNv, 0, none⟩), .pointer (some ⟨l.bF, 0, none⟩), .pointer (some ⟨l.bS, 0, none⟩)]
/-- The closure's variables, q changes of the memo at most. -/
structure ST (l : Lay) (w : World) (q : Nat) : Prop where
  T : Blk w l.bT 22 #[.slice l.A l.n l.c]
  S : Blk w l.bS 3 #[.int .i64 l.s]
  Nv : Blk w l.bNv 56 #[.map (some l.bN)]
  N : NumM w l.bN l.nN l.ks
  Kv : Blk w l.bKv 75 #[.map (some l.bK)]
  F : Blk w l.bF 76 #[l.fn]
  K : Memo l.s l.tr l.ks w l.bK q
  R : Reads w l.B 1 l.A l.n (ints .u32 l.tr)
  hB : l.B ≤ l.L
  hT : l.bT < l.L
  hS : l.bS < l.L
  hNv : l.bNv < l.L
  hN : l.bN < l.L
  hKv : l.bKv < l.L
  hF : l.bF < l.L
  hK : l.bK < l.L
  kB : l.B ≤ l.bK
  nNK : l.bN ≠ l.bK
theorem Blk.keep {w w' : World} {g : Nat} {t : TypeId} {cs : Array Value} (h : Blk w g t cs) (he : w'.heap[g]? = w.heap[g]?) : Blk w' g t cs := he.trans h
section
variable {l : Lay} {w w' : World} {q : Nat}
theorem ST.below (h : ST l w q) (hb : Below l.L w w') : ST l w' q where
  T := h.T.keep (hb.block _ h.hT)
  S := h.S.keep (hb.block _ h.hS)
  Nv := h.Nv.keep (hb.block _ h.hNv)
  N := h.N.at_ (hb.block _ h.hN)
  Kv := h.Kv.keep (hb.block _ h.hKv)
  F := h.F.keep (hb.block _ h.hF)
  K := h.K.at_ (hb.block _ h.hK)
  R := h.R.below ⟨hb.os, hb.tape, hb.output, hb.size, fun k hk => hb.block k (Nat.lt_of_lt_of_le hk h.hB)⟩
  hB := h.hB
  hT := h.hT
  hS := h.hS
  hNv := h.hNv
  hN := h.hN
  hKv := h.hKv
  hF := h.hF
  hK := h.hK
  kB := h.kB
  nNK := h.nNK
theorem ST.drewN (h : ST l w q) (k : Nat) : ST l (w.drewN k) q := ⟨h.T, h.S, h.Nv, h.N, h.Kv, h.F, h.K, h.R, h.hB, h.hT, h.hS, h.hNv, h.hN, h.hKv, h.hF, h.hK, h.kB, h.nNK⟩
theorem ST.put {q' : Nat} (h : ST l w q) (hg : w.grownBy w' (some l.bK)) (hK : Memo l.s l.tr l.ks w' l.bK q') : ST l w' q' := by
  have n1 := h.T
  have hk := h.K
  have ne : ∀ {g : Nat} {t : TypeId} {cs : Array Value}, Blk w g t cs → some g ≠ some l.bK := fun hb e => by
    injection e with e
    subst e
    obtain ⟨D, ⟨es, clock, hh, _⟩, _⟩ := hk
    unfold Blk at hb
    rw [hb] at hh; cases hh
  have nN : some l.bN ≠ some l.bK := fun e => h.nNK (by injection e)
  exact ⟨h.T.grown hg (ne h.T), h.S.grown hg (ne h.S), h.Nv.grown hg (ne h.Nv), h.N.kept hg nN, h.Kv.grown hg (ne h.Kv), h.F.grown hg (ne h.F), hK,
    h.R.grown hg (by have := h.K.lt; have := h.kB; omega) (fun j hj => by cases hj; exact h.kB), h.hB, h.hT, h.hS, h.hNv, h.hN, h.hKv, h.hF, h.hK, h.kB, h.nNK⟩
end

set_option maxHeartbeats 1000000 in
/-- The deferred closure: it takes down what was found. -/
theorem keep_any (l : Lay) (q a b x y : Nat) (u : FrameMode) (w : World) (hs : ST l w q) (ha : a ≤ 14) (hb : b < 2 ^ 14) (ht : l.tr.length ≤ 14) (hq : q < maxLen)
    (hx : Blk w x 3 #[.int .i64 (W l.s l.tr l.ks a b)]) (hy : Blk w y 79 #[.int .i64 a, .int .u16 b]) :
    CallsD Try.prog 43 #[.pointer (some ⟨x, 0, none⟩), .pointer (some ⟨l.bKv, 0, none⟩), .pointer (some ⟨y, 0, none⟩)] u w fun e u' w' => u' = u ∧ (e = .returned (.tuple #[]) ∧ ST l w' (q + 1) ∧ w.grownBy w' (some l.bK)) := by
  obtain ⟨w', hrun, hm, hg⟩ := hs.K.put ha hb ht hq
  unfold stv at hrun
  have HS := Lib.hid (hs.put hg hm)
  have HG := Lib.hid hg
  have c0 := hx.cell 0
  have c1 := hy.cell 0
  have c2 := hy.cell 1
  have c3 := hs.Kv.cell 0
  simp only [List.getElem?_toArray, List.getElem?_cons_zero, List.getElem?_cons_succ] at c0 c1 c2 c3
  clear hm hg hx hy hs
  go_enter_d Try.func43, Try.ntmps43
  go_wp2
  go_end0
  exact ⟨rfl, HS.out, HG.out⟩
end Go.Proofs.Ythclmacnmbmepaa
