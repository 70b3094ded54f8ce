import Derived.Test.YthclmacnmbmepaaWw
import Derived.Laws.EntriesVeiled
namespace Go.Proofs.Ythclmacnmbmepaa
open Go.RowKit Bel Go.Maps Go.Shelf

/-- The keys in the order in which they come. -/
def addK (S : List Int) (r : Int) : List Int := if r ∈ S then S else S ++ [r]
def kl (tr : List Int) (j : Nat) : List Int := (tr.take j).foldl addK []
theorem kl_zero (tr : List Int) : kl tr 0 = [] := rfl
theorem kl_succ {tr : List Int} {j : Nat} (h : j < tr.length) : kl tr (j + 1) = addK (kl tr j) (nth tr j) := by
  unfold kl
  rw [List.take_succ_eq_append_getElem h, List.foldl_append, nth_eq h]; rfl
theorem kl_old {tr : List Int} {j : Nat} (h : j < tr.length) (hm : nth tr j ∈ kl tr j) : kl tr (j + 1) = kl tr j := by rw [kl_succ h, addK, if_pos hm]
theorem kl_new {tr : List Int} {j : Nat} (h : j < tr.length) (hm : nth tr j ∉ kl tr j) : kl tr (j + 1) = kl tr j ++ [nth tr j] := by rw [kl_succ h, addK, if_neg hm]
theorem addK_nodup {S : List Int} {r : Int} (h : S.Nodup) : (addK S r).Nodup := by
  unfold addK
  split
  · exact h
  · rename_i hr; exact snoc_nodup h hr
theorem addK_len (S : List Int) (r : Int) : (addK S r).length ≤ S.length + 1 := by
  unfold addK; split <;> simp
theorem mem_addK (S : List Int) (r x : Int) : x ∈ addK S r ↔ x ∈ S ∨ x = r := by
  unfold addK
  split
  · rename_i h
    exact ⟨Or.inl, fun e => e.elim id (fun e => e ▸ h)⟩
  · simp
theorem fold_addK (l : List Int) : ∀ S : List Int, S.Nodup → (l.foldl addK S).Nodup ∧ (l.foldl addK S).length ≤ S.length + l.length ∧ ∀ x, x ∈ l.foldl addK S ↔ x ∈ S ∨ x ∈ l := by
  induction l with
  | nil => intro S h; simp [h]
  | cons r l ih =>
    intro S h
    have h1 := ih (addK S r) (addK_nodup h)
    have h2 := addK_len S r
    simp only [List.foldl_cons, List.length_cons]
    refine ⟨h1.1, by omega, fun x => ?_⟩
    rw [h1.2.2 x, mem_addK]
    simp only [List.mem_cons]
    constructor
    · rintro ((e | e) | e)
      · exact Or.inl e
      · exact Or.inr (Or.inl e)
      · exact Or.inr (Or.inr e)
    · rintro (e | e | e)
      · exact Or.inl (Or.inl e)
      · exact Or.inl (Or.inr e)
      · exact Or.inr e
theorem kl_nodup (tr : List Int) (j : Nat) : (kl tr j).Nodup := (fold_addK _ [] List.nodup_nil).1
theorem kl_len (tr : List Int) (j : Nat) : (kl tr j).length ≤ j := by
  have h1 := (fold_addK (tr.take j) [] List.nodup_nil).2.1
  have h2 : (tr.take j).length ≤ j := List.length_take_le _ _
  unfold kl
  simp at h1
  omega
theorem kl_all {tr : List Int} {j : Nat} (h : tr.length ≤ j) : ∀ x ∈ tr, x ∈ kl tr j := fun x hx => by
  unfold kl
  rw [List.take_of_length_le h]
  exact ((fold_addK tr [] List.nodup_nil).2.2 x).2 (Or.inr hx)

theorem NumM.more {w : World} {g n n' : Nat} {ks : List Int} (h : NumM w g n ks) (hn : n ≤ n') : NumM w g n' ks := by
  obtain ⟨D, ⟨es, clock, hb, F, hs, hD⟩, h2⟩ := h
  exact ⟨D, ⟨es, clock, hb, F, Nat.le_trans hs hn, hD⟩, h2⟩
theorem U_mono {a b : Nat} (h : a ≤ b) : U a ≤ U b := by
  induction h with
  | refl => exact Nat.le_refl _
  | step h ih => rename_i m; exact Nat.le_trans ih (by show U m ≤ 1 + 14 * U m; omega)
theorem U_14 : U 14 ≤ most := by unfold most; decide

set_option maxHeartbeats 1000000 in
theorem bestP_err (A : Option Addr) (n c : Nat) (s e : Int) (w : World) (he : allowedE n 14 s = e) (h0 : e ≠ 0) :
    Calls Try.prog 22 #[.slice A n c, .int .i64 s] w fun r w' => r = .returned (.tuple #[.int .i64 0, .int .i64 e]) ∧ Below w.heap.size w w' := by
  have HA := Lib.hid (fun W => allowed_any A n c 14 s W)
  rw [he] at HA
  have hb : (e != 0) = true := by simpa using h0
  clear h0 he
  go_enter Try.func22, Try.ntmps22
  go_wp2_with fail
  refine ((HA.out _).mono ?_)
  rintro r w' ⟨rfl, rfl⟩
  go_wp2
  go_ret2
  exact ⟨rfl, ((Below.refl _ _).alloc (Nat.le_refl _) _).alloc (by simp) _⟩

/-- The world in which the closure is called first. -/
structure Pre (w wr : World) (A : Option Addr) (n c s : Nat) (tr : List Int) (k : Nat) : Prop where
  b : Below w.heap.size w wr
  T : Blk wr w.heap.size 22 #[.slice A n c]
  S : Blk wr (w.heap.size + 1) 3 #[.int .i64 s]
  Nv : Blk wr (w.heap.size + 3) 56 #[.map (some (w.heap.size + 2))]
  N : NumM wr (w.heap.size + 2) k (kl tr k)

theorem Pre.old {w wr : World} {A : Option Addr} {n c s k : Nat} {tr : List Int} (h : Pre w wr A n c s tr k) (hk : k < tr.length) (hm : nth tr k ∈ kl tr k) : Pre w wr A n c s tr (k + 1) :=
  ⟨h.b, h.T, h.S, h.Nv, by rw [kl_old hk hm]; exact h.N.more (Nat.le_succ k)⟩
theorem Pre.new {w wr w' : World} {A : Option Addr} {n c s k : Nat} {tr : List Int} (h : Pre w wr A n c s tr k) (hk : k < tr.length) (hm : nth tr k ∉ kl tr k)
    (hN : NumM w' (w.heap.size + 2) (k + 1) (kl tr k ++ [nth tr k])) (hg : wr.grownBy w' (some (w.heap.size + 2))) : Pre w w' A n c s tr (k + 1) :=
  ⟨h.b.grown hg h.b.size (fun j hj => by cases hj; omega), h.T.grown hg (by simp), h.S.grown hg (by simp), h.Nv.grown hg (by simp), by rw [kl_new hk hm]; exact hN⟩
theorem pre_start (w : World) (A : Option Addr) (n c s : Nat) (tr : List Int) :
    Pre w ((((w.alloc (Obj.cells #[Value.slice A n c] 22)).alloc (Obj.cells #[Value.int IntKind.i64 s] 3)).alloc (Obj.map #[] 0)).alloc (Obj.cells #[Value.map (some (w.heap.size + 1 + 1))] 56)) A n c s tr 0 where
  b := ((((Below.refl _ _).alloc (Nat.le_refl _) _).alloc (by simp) _).alloc (by simp; omega) _).alloc (by simp; omega) _
  T := (((Blk.new w 22 #[.slice A n c]).alloc _).alloc _).alloc _
  S := by
    have := ((Blk.new (w.alloc (Obj.cells #[Value.slice A n c] 22)) 3 #[.int .i64 s]).alloc (Obj.map #[] 0)).alloc (Obj.cells #[Value.map (some (w.heap.size + 1 + 1))] 56)
    simpa using this
  Nv := by
    have := Blk.new (((w.alloc (Obj.cells #[Value.slice A n c] 22)).alloc (Obj.cells #[Value.int IntKind.i64 s] 3)).alloc (Obj.map #[] 0)) 56 #[.map (some (w.heap.size + 1 + 1))]
    simpa using this
  N := by
    have := (NumM.made ((w.alloc (Obj.cells #[Value.slice A n c] 22)).alloc (Obj.cells #[Value.int IntKind.i64 s] 3))).alloc (Obj.cells #[Value.map (some (w.heap.size + 1 + 1))] 56)
    simpa [kl_zero] using this
theorem cl_argsZ (l : Lay) : clArgs l ((0 : Nat) : Int) ((0 : Nat) : Int) (([] : List Int).length : Int) = #[.agg #[.int .i64 0, .int .u16 0], .int .i64 0, .pointer (some ⟨l.bT, 0, none⟩), .pointer (some ⟨l.bKv, 0, none⟩), .pointer (some ⟨l.bNv, 0, none⟩), .pointer (some ⟨l.bF, 0, none⟩), .pointer (some ⟨l.bS, 0, none⟩)] := rfl
/-- The first call of the closure. -/
theorem first_call (w wr : World) (A : Option Addr) (n c s : Nat) (tr : List Int) (hp : Pre w wr A n c s tr n) (hl : tr.length = n) (hw : ∀ x ∈ tr, (Lit.int .u32 x).wf = true) (h : Reads w w.heap.size 1 A n (ints .u32 tr)) (hn : n ≤ 14) (hs1 : 1 ≤ s) (hs2 : s ≤ 1024) :
    Calls Try.prog 42 #[.agg #[.int .i64 0, .int .u16 0], .int .i64 0, .pointer (some ⟨w.heap.size, 0, none⟩), .pointer (some ⟨wr.heap.size + 1, 0, none⟩), .pointer (some ⟨w.heap.size + 1 + 1 + 1, 0, none⟩), .pointer (some ⟨wr.heap.size + 1 + 1, 0, none⟩), .pointer (some ⟨w.heap.size + 1, 0, none⟩)]
      (((wr.alloc (Obj.map #[] 0)).alloc (Obj.cells #[Value.map (some wr.heap.size)] 75)).alloc (Obj.cells #[.func (.func 42) #[] #[.pointer (some ⟨w.heap.size, 0, none⟩), .pointer (some ⟨wr.heap.size + 1, 0, none⟩), .pointer (some ⟨w.heap.size + 1 + 1 + 1, 0, none⟩), .pointer (some ⟨wr.heap.size + 1 + 1, 0, none⟩), .pointer (some ⟨w.heap.size + 1, 0, none⟩)]] 76))
      fun e w' => e = .returned (.int .i64 (V s tr [])) ∧ Below w.heap.size w w' := by
  have hz := hp.Nv.lt
  have hkl := kl_len tr n
  let l : Lay := { s := s, n := n, c := c, A := A, tr := tr, ks := kl tr n, B := w.heap.size, L := wr.heap.size + 3, bT := w.heap.size, bS := w.heap.size + 1, bNv := w.heap.size + 3, bN := w.heap.size + 2, bKv := wr.heap.size + 1, bK := wr.heap.size, bF := wr.heap.size + 2, nN := n }
  have ok : Ok l := ⟨hl, hn, kl_nodup tr n, kl_all (Nat.le_of_eq hl), by show (kl tr n).length ≤ 14; omega, hw, hs1, hs2⟩
  have hB5 : Below w.heap.size w (((wr.alloc (Obj.map #[] 0)).alloc (Obj.cells #[Value.map (some wr.heap.size)] 75)).alloc (Obj.cells #[l.fn] 76)) :=
    ((hp.b.alloc hp.b.size _).alloc (by simp; omega) _).alloc (by simp; omega) _
  have hst : ST l (((wr.alloc (Obj.map #[] 0)).alloc (Obj.cells #[Value.map (some wr.heap.size)] 75)).alloc (Obj.cells #[l.fn] 76)) 0 := {
    T := ((hp.T.alloc _).alloc _).alloc _
    S := ((hp.S.alloc _).alloc _).alloc _
    Nv := ((hp.Nv.alloc _).alloc _).alloc _
    N := ((hp.N.alloc _).alloc _).alloc _
    Kv := by
      have := (Blk.new (wr.alloc (Obj.map #[] 0)) 75 #[Value.map (some wr.heap.size)]).alloc (Obj.cells #[l.fn] 76)
      simpa using this
    F := by
      have := Blk.new ((wr.alloc (Obj.map #[] 0)).alloc (Obj.cells #[Value.map (some wr.heap.size)] 75)) 76 #[l.fn]
      simpa using this
    K := ((Memo.made wr).alloc _).alloc _
    R := h.below hB5
    hB := by show w.heap.size ≤ wr.heap.size + 3; omega
    hT := by show w.heap.size < wr.heap.size + 3; omega
    hS := by show w.heap.size + 1 < wr.heap.size + 3; omega
    hNv := by show w.heap.size + 3 < wr.heap.size + 3; omega
    hN := by show w.heap.size + 2 < wr.heap.size + 3; omega
    hKv := by show wr.heap.size + 1 < wr.heap.size + 3; omega
    hF := by show wr.heap.size + 2 < wr.heap.size + 3; omega
    hK := by show wr.heap.size < wr.heap.size + 3; omega
    kB := by show w.heap.size ≤ wr.heap.size; omega
    nNK := by show w.heap.size + 2 ≠ wr.heap.size; omega }
  have hc := cl_all l ok n 0 (Nat.zero_add _) 0 0 _ (Nat.two_pow_pos _) (by rw [sel_zero]; exact Nat.zero_le _) (by simp [l]) hst (by show 0 + U (n - 0) ≤ most; rw [Nat.zero_add]; exact Nat.le_trans (U_mono (by omega)) U_14)
  rw [sel_zero, cl_argsZ] at hc
  refine hc.mono ?_
  rintro e w' ⟨rfl, _, hg⟩
  refine ⟨?_, hB5.grown hg hB5.size (fun j hj => by cases hj; show w.heap.size ≤ wr.heap.size; omega)⟩
  show Ending.returned (.int .i64 (W s tr (kl tr n) 0 0 : Nat)) = _
  unfold W
  rw [sel_zero, List.drop_zero]
set_option maxRecDepth 100000 in
set_option maxHeartbeats 2000000 in
theorem bestP_any (A : Option Addr) (n c s : Nat) (tr : List Int) (w : World) (h : Reads w w.heap.size 1 A n (ints .u32 tr)) (hw : ∀ x ∈ tr, (Lit.int .u32 x).wf = true)
    (hn : n ≤ 14) (hs1 : 1 ≤ s) (hs2 : s ≤ 1024) :
    Calls Try.prog 22 #[.slice A n c, .int .i64 s] w fun e w' => e = .returned (.tuple #[.int .i64 (V s tr []), .int .i64 0]) ∧ Below w.heap.size w w' := by
  have HLN := Lib.hid h.int_len
  have HA := Lib.hid (fun W => allowed_any A n c 14 s W)
  have ha : allowedE n 14 s = 0 := by unfold allowedE; rw [if_neg (by omega), if_neg (by omega)]
  rw [ha] at HA
  clear ha
  have hmm := @run_makeMap Try.prog
  have hmf : ∀ (fn : Fn) (first cap : Array Value) (w : World), (Instr.makeFunc fn first cap).run Try.prog w = .ok (.func fn first cap) w := fun _ _ _ _ => rfl
  have HW := Lib.hid hw
  have HH := Lib.hid h
  clear hw h
  go_enter Try.func22, Try.ntmps22
  go_wp2_with fail
  refine ((HA.out _).mono ?_)
  rintro r w' ⟨rfl, rfl⟩
  go_wp2
  go_loopw [9, 10, 11, 23] (fun _ _ _ x wr => ∃ k : Nat, k ≤ n ∧ x = .int .i64 k ∧ Pre w wr A n c s tr k) (fun _ _ _ x _ => n - (intOf x).toNat)
  case atStart => exact ⟨0, Nat.zero_le _, rfl, pre_start w A n c s tr⟩
  case round =>
    obtain ⟨k, hk, rfl, hp⟩ := hrel
    have cT := hp.T.cell 0
    have cS := hp.S.cell 0
    have cN := hp.Nv.cell 0
    simp only [List.getElem?_toArray, List.getElem?_cons_zero] at cT cS cN
    have HP := Lib.hid hp
    by_cases hlt : k < n
    · have hkt : k < tr.length := by rw [HLN.out]; exact hlt
      obtain ⟨b, o, rfl, hbw, hc⟩ := (HH.out.below hp.b).int_at hlt
      have hk0 : (0 : Int) ≤ (k : Int) := Int.natCast_nonneg _
      have hk1 : (k : Int) < (n : Int) := by omega
      have hwk := HW.out _ (nth_mem hkt)
      have HKT := Lib.hid hkt
      by_cases hm : nth tr k ∈ kl tr k
      · obtain ⟨v, hlk⟩ := hp.N.is hwk
        have hd : decide (nth tr k ∈ kl tr k) = true := by simpa using hm
        rw [hd] at hlk
        have HM := Lib.hid hm
        clear hp hm hd hkt hlt
        go_wp2
        all_goals
          go_roundw
          case rel => exact ⟨k + 1, by omega, by go_num, HP.out.old HKT.out HM.out⟩
          case measure => simp [intOf]; omega
      · obtain ⟨v, hlk⟩ := hp.N.is hwk
        have hd : decide (nth tr k ∈ kl tr k) = false := by simpa using hm
        rw [hd] at hlk
        have hkl := kl_len tr k
        have hlen := hp.N.len 3
        obtain ⟨w5, hput, hm5, hg5⟩ := hp.N.put hwk hm (by omega) (by unfold maxLen; omega)
        have HM := Lib.hid hm
        have HM5 := Lib.hid hm5
        have HG5 := Lib.hid hg5
        clear hp hm hd hkt hlt hm5 hg5 hkl
        go_wp2
        all_goals
          go_roundw
          case rel => exact ⟨k + 1, by omega, by go_num, HP.out.new HKT.out HM.out HM5.out HG5.out⟩
          case measure => simp [intOf]; omega
    · have hkn : k = n := by omega
      subst hkn
      have hnl : ¬ ((k : Int) < (k : Int)) := by omega
      clear hlt hp
      go_wp2_with fail
      have HF := Lib.hid (first_call w wr A k c s tr HP.out HLN.out HW.out HH.out hn hs1 hs2)
      refine HF.out.mono ?_
      rintro e w6 ⟨rfl, hb6⟩
      have HB6 := Lib.hid hb6
      clear hb6 cT cS cN
      go_wp2
      go_ret2
      exact ⟨rfl, HB6.out⟩
end Go.Proofs.Ythclmacnmbmepaa
