import Derived.Test.YthclmacnmbmepaaWi
namespace Go.Proofs.Ythclmacnmbmepaa
open Go.RowKit Bel Go.Maps Go.Shelf

def noTurn : Turn := ⟨false, false, 0⟩
theorem tnth_replicate (n j : Nat) : tnth (List.replicate n noTurn) j = noTurn := by
  unfold tnth
  rw [List.getD]
  by_cases h : j < n
  · simp [h]
  · simp [h]; rfl
theorem made_turns (n : Nat) : madeCells #[.bool false, .bool false, .int .u32 0] (n * 3) = (tcells (List.replicate n noTurn)).toArray := by
  apply Array.ext
  · rw [size_madeCells, List.size_toArray, tcells_len, List.length_replicate]
  · intro q h1 h2
    rw [size_madeCells] at h1
    have h3 := tcells_at (List.replicate n noTurn) (q / 3) (by simp; omega)
    rw [tnth_replicate] at h3
    obtain ⟨c0, c1, c2⟩ := h3
    have hq : (madeCells #[.bool false, .bool false, .int .u32 0] (n * 3))[q]'(by rw [size_madeCells]; exact h1) = #[Value.bool false, .bool false, .int .u32 0][q % 3]! := by
      simp [madeCells]
    rw [hq]
    have hl : (tcells (List.replicate n noTurn)).toArray[q]? = some ((tcells (List.replicate n noTurn)).toArray[q]) := Array.getElem?_eq_getElem h2
    rcases (show q % 3 = 0 ∨ q % 3 = 1 ∨ q % 3 = 2 by omega) with e | e | e
    · rw [show q / 3 * 3 = q by omega] at c0
      rw [List.getElem?_toArray, c0] at hl
      injection hl with hl
      rw [← hl, e]; rfl
    · rw [show q / 3 * 3 + 1 = q by omega] at c1
      rw [List.getElem?_toArray, c1] at hl
      injection hl with hl
      rw [← hl, e]; rfl
    · rw [show q / 3 * 3 + 2 = q by omega] at c2
      rw [List.getElem?_toArray, c2] at hl
      injection hl with hl
      rw [← hl, e]; rfl

theorem own_shape {W : World} {B e size n : Nat} {v : Value} {xs : List Value} (h : W.ownsRow B e size v n xs) : ∃ A c, v = .slice A n c ∧ Reads W W.heap.size size A n xs := by
  rcases h.2 with ⟨rfl, rfl⟩ | ⟨g, cap, cur, rfl, _⟩
  · exact ⟨none, 0, rfl, Reads.of_own h⟩
  · exact ⟨_, cap, rfl, Reads.of_own h⟩

theorem nextsTo_at {tr : List Int} {n k : Nat} (hk : k < n) : nth (nextsTo tr n) k = (nxt tr (k + 1) (nth tr k) : Int) := by
  have h2 : nth (nextsTo tr n) k = (nextsTo tr n)[k]'(by rw [nextsTo_len]; omega) := nth_eq _
  rw [h2]; simp [nextsTo]
theorem tcells_app (xs ys : List Turn) : tcells (xs ++ ys) = tcells xs ++ tcells ys := by simp [tcells]
theorem tnth_mid {os rest : List Turn} {x : Turn} {k : Nat} (h : os.length = k) : tnth (os ++ x :: rest) k = x := by
  subst h; rw [tnth_eq (by simp)]; simp
theorem rep_cons {n k : Nat} (h : k < n) : List.replicate (n - k) noTurn = noTurn :: List.replicate (n - (k + 1)) noTurn := by
  rw [show n - k = n - (k + 1) + 1 by omega]; rfl
theorem tset_hit {os rest : List Turn} {k : Nat} (h : os.length = k) (x : Bool) (t : Turn) :
    (tcells (os ++ t :: rest)).toArray.setIfInBounds (k * 3) (.bool x) = (tcells (os ++ ⟨x, t.left, t.out⟩ :: rest)).toArray := by
  apply Array.toList_inj.1
  simp only [Array.toList_setIfInBounds]
  have e : ∀ y : Turn, tcells (os ++ y :: rest) = tcells os ++ .bool y.hit :: .bool y.left :: .int .u32 y.out :: tcells rest := fun y => by simp [tcells]
  rw [e, e, List.set_append_right _ _ (by rw [tcells_len]; omega), tcells_len, h]
  simp
theorem tset_left {os rest : List Turn} {k : Nat} (h : os.length = k) (x : Bool) (t : Turn) :
    (tcells (os ++ t :: rest)).toArray.setIfInBounds (k * 3 + 1) (.bool x) = (tcells (os ++ ⟨t.hit, x, t.out⟩ :: rest)).toArray := by
  apply Array.toList_inj.1
  simp only [Array.toList_setIfInBounds]
  have e : ∀ y : Turn, tcells (os ++ y :: rest) = tcells os ++ .bool y.hit :: .bool y.left :: .int .u32 y.out :: tcells rest := fun y => by simp [tcells]
  rw [e, e, List.set_append_right _ _ (by rw [tcells_len]; omega), tcells_len, h, show k * 3 + 1 - k * 3 = 1 by omega]
  rfl
theorem tset_out {os rest : List Turn} {k : Nat} (h : os.length = k) (x : Int) (t : Turn) :
    (tcells (os ++ t :: rest)).toArray.setIfInBounds (k * 3 + 2) (.int .u32 x) = (tcells (os ++ ⟨t.hit, t.left, x⟩ :: rest)).toArray := by
  apply Array.toList_inj.1
  simp only [Array.toList_setIfInBounds]
  have e : ∀ y : Turn, tcells (os ++ y :: rest) = tcells os ++ .bool y.hit :: .bool y.left :: .int .u32 y.out :: tcells rest := fun y => by simp [tcells]
  rw [e, e, List.set_append_right _ _ (by rw [tcells_len]; omega), tcells_len, h, show k * 3 + 2 - k * 3 = 2 by omega]
  rfl
theorem pset_next (ps : List (Int × Int)) : ∀ (j : Nat) (x : Int), (pcells ps).set (j * 2 + 1) (.int .i64 x) = pcells (ps.set j (pkey ps j, x)) := by
  induction ps with
  | nil => intro j x; simp [pcells]
  | cons p ps ih =>
    intro j x
    have e : ∀ (q : Int × Int) (qs : List (Int × Int)), pcells (q :: qs) = .int .u32 q.1 :: .int .i64 q.2 :: pcells qs := fun q qs => by simp [pcells]
    cases j with
    | zero => rw [List.set_cons_zero, e, e]; rfl
    | succ j =>
      have hk : pkey (p :: ps) (j + 1) = pkey ps j := rfl
      rw [List.set_cons_succ, e, e, hk, ← ih j x, show (j + 1) * 2 + 1 = j * 2 + 1 + 1 + 1 by omega, List.set_cons_succ, List.set_cons_succ]

theorem min_mem (ps : List (Int × Int)) : ∀ j, 1 ≤ j → ∃ i, i < j ∧ pnth ps i = minTo ps j := by
  intro j h1
  induction j with
  | zero => omega
  | succ j ih =>
    by_cases hj : j = 0
    · subst hj; exact ⟨0, by omega, (minTo_one ps).symm⟩
    · obtain ⟨i, hi, e⟩ := ih (by omega)
      by_cases hq : laterI (pkey ps j) (pnext ps j) (minTo ps j).1 (minTo ps j).2 < 0
      · exact ⟨j, by omega, by rw [minTo_yes hq]⟩
      · exact ⟨i, by omega, by rw [minTo_no hq, e]⟩

set_option maxRecDepth 100000 in
set_option maxHeartbeats 2000000 in
/-- 'Turns' of the program. -/
theorem turnsP_any (A : Option Addr) (n c s : Nat) (tr : List Int) (w : World) (h : Reads w w.heap.size 1 A n (ints .u32 tr)) (hw : ∀ x ∈ tr, (Lit.int .u32 x).wf = true) (hn : n ≤ 4096) (hs1 : 1 ≤ s) (hs2 : s ≤ 1024) :
    Calls Try.prog 13 #[.slice A n c, .int .i64 s] w fun e w' => ∃ g, e = .returned (.tuple #[.slice (some ⟨g, 0, none⟩) n n, .int .i64 0]) ∧ w.heap.size ≤ g ∧ Blk w' g 50 (tcells (turnsL s tr [])).toArray ∧ Below w.heap.size w w' := by
  have hl := h.int_len
  have ha : allowedE n 4096 s = 0 := by unfold allowedE; rw [if_neg (by omega), if_neg (by omega)]
  have HA := Lib.hid (fun W => allowed_any A n c 4096 s W)
  rw [ha] at HA
  obtain ⟨i0, hi, hz0, hz1, hz2⟩ := info_parts info50
  have hmk : ∀ W : World, (Instr.makeSlice 31 (.int .i64 (n : Int)) (.int .i64 (n : Int))).run Try.prog W = .ok (.slice (some ⟨W.heap.size, 0, none⟩) n n) (W.alloc (.cells (tcells (List.replicate n noTurn)).toArray 50)) := fun W => by
    rw [← made_turns]
    have := run_make_rowN (P := Try.prog) 31 50 i0 _ Try.underlying31 hi hz0 .i64 .i64 n n (Nat.le_refl _) (by rw [hz2]; omega) (by omega) W
    rw [hz1] at this
    exact this
  clear hi hz0 hz1 hz2 ha
  have HLN := Lib.hid hl
  clear hl
  have hN := Lib.hid (nextP_any A n c tr w h hw hn)
  go_enter Try.func13, Try.ntmps13
  go_wp2_with (first
    | (go_at_call 29; refine (HA.out _).mono ?_; rintro e w' ⟨rfl, rfl⟩)
    | (go_at_call 10; refine (hN.out).mono ?_; rintro e w1 ⟨vN, rfl, hown, hb1⟩))
  have hTI0 : TI w (w1.alloc (.cells (tcells (List.replicate n noTurn)).toArray 50)) vN n tr w1.heap.size (List.replicate n noTurn) (.slice none 0 0) 0 [] :=
    ⟨hb1.alloc hb1.size _, hown.alloc _, hb1.size, Blk.new _ _ _, World.ownsRow_nil _ _ _ _⟩
  obtain ⟨bo, hbo⟩ : ∃ bo, bo = w1.heap.size := ⟨_, rfl⟩
  rw [← hbo] at hTI0 ⊢
  have hbB : w.heap.size ≤ bo := by rw [hbo]; exact hb1.size
  generalize hW : w1.alloc (.cells (tcells (List.replicate n noTurn)).toArray 50) = W at hTI0 ⊢
  clear hW hbo hb1 hown hN HA hmk
  go_loopw [9, 31] (fun vT x wr => ∃ (k : Nat) (os : List Turn) (ps : List (Int × Int)), k ≤ n ∧ x = .int .i64 k ∧ TI w wr vN n tr bo (os ++ List.replicate (n - k) noTurn) vT ps.length ps ∧ PI tr s k os ps) (fun _ x _ => n - (intOf x).toNat)
  case atStart => exact ⟨0, [], [], Nat.zero_le _, rfl, hTI0, PI.start tr s⟩
  case round =>
    obtain ⟨k, os, ps, hk, rfl, hTI, hPI⟩ := hrel
    clear hTI0
    have HPI := Lib.hid hPI
    have hroom := hPI.room
    clear hPI
    by_cases hlt : k < n
    · have hkt : Hid (k < tr.length) := by rw [HLN.out]; exact hlt
      obtain ⟨gN, cN, rfl, hgN, hgN'⟩ := hTI.next.form (by omega)
      obtain ⟨AT, cT, rfl, hrT⟩ := own_shape hTI.there
      obtain ⟨b, o, rfl, hbw, hc⟩ := (h.below hTI.below).int_at hlt
      have HIF := Lib.hid (indexFunc_any AT ps.length cT ps (nth tr k) wr.heap.size (wr.alloc (.cells #[.int .u32 (nth tr k)] 45)) ((hrT.alloc (Nat.le_refl _) _).more (by simp)) (by simp) (by omega))
      have T1 := Lib.hid (hTI.alloc (.cells #[.int .u32 (nth tr k)] 45))
      have b1 := Lib.hid (Blk.new wr 45 #[.int .u32 (nth tr k)])
      clear hTI hrT
      have HR := Lib.hid h
      clear h
      go_wp2_with fail
      refine (HIF.out).mono ?_
      rintro e W2 ⟨hb2, ⟨rfl, hno⟩ | ⟨j, hj, hjk, rfl, _⟩⟩
      · clear HIF
        have T2 := T1.out.step hb2
        have b2 := b1.out.below hb2 (by simp)
        have k2 := b2.cell 0
        simp only [List.getElem?_toArray, List.getElem?_cons_zero] at k2
        have hlt2 := b2.lt
        clear T1 b1 hb2
        have hos := HPI.out.len
        obtain ⟨b3, o3, e3, _, cN'⟩ := (Reads.of_own T2.next).int_at hlt
        injection e3 with e3
        injection e3 with e3 e4
        subst e3 e4
        rw [Nat.zero_add, nextsTo_at hlt] at cN'
        have HNO := Lib.hid hno
        clear hno
        by_cases hfull : ps.length = s
        · have hbb : ((ps.length : Int) == (s : Int)) = true := by rw [beq_iff_eq]; omega
          have HF := Lib.hid hfull
          have hps1 : 1 ≤ ps.length := by omega
          obtain ⟨gT, cT', e5, hgT, _⟩ := T2.there.form (by omega)
          injection e5 with e5 e6 e7
          subst e5 e7
          have HM := Lib.hid (minFunc_any _ ps.length cT ps W2 (Reads.of_own T2.there) (by omega) hps1)
          have HT := Lib.hid T2
          have HB2 := Lib.hid b2
          have HC2 := Lib.hid cN'
          clear T2 hfull hos b2 k2 cN' e6
          go_wp2_with fail
          refine (HM.out).mono ?_
          rintro e W3 ⟨rfl, hb3⟩
          clear HM
          have T3 := (HT.out.step hb3).alloc (.cells #[.int .u32 (minK ps ps.length), .int .i64 (minX ps ps.length)] 65)
          have B3 := (HB2.out.below hb3 hlt2).alloc (.cells #[.int .u32 (minK ps ps.length), .int .i64 (minX ps ps.length)] 65)
          have L3 := Blk.new W3 65 #[.int .u32 (minK ps ps.length), .int .i64 (minX ps ps.length)]
          have hlt3 : wr.heap.size < W3.heap.size := Nat.lt_of_lt_of_le hlt2 hb3.size
          clear HT HB2 HC2 hb3
          have hos := HPI.out.len
          rw [rep_cons hlt] at T3
          have hck : ∀ i, i < 3 → (W3.alloc (.cells #[.int .u32 (minK ps ps.length), .int .i64 (minX ps ps.length)] 65)).cell? ⟨bo, k * 3 + i, none⟩ = some (#[Value.bool false, .bool false, .int .u32 0][i]!) := by
            intro i hi
            rw [T3.out.cell, List.getElem?_toArray]
            have := tcells_at (os ++ noTurn :: List.replicate (n - (k + 1)) noTurn) k (by simp; omega)
            rw [tnth_mid hos] at this
            obtain ⟨q0, q1, q2⟩ := this
            match i, hi with
            | 0, _ => exact q0
            | 1, _ => exact q1
            | 2, _ => exact q2
          have o0 := hck 0 (by omega)
          have o1 := hck 1 (by omega)
          have o2 := hck 2 (by omega)
          clear hck
          simp only [Nat.add_zero] at o0
          have f0 := T3.out.frozen (k * 3)
          have f1 := T3.out.frozen (k * 3 + 1)
          have f2 := T3.out.frozen (k * 3 + 2)
          have l0 := L3.cell 0
          have l1 := L3.cell 1
          simp only [List.getElem?_toArray, List.getElem?_cons_zero, List.getElem?_cons_succ] at l0 l1
          have n4 : W3.heap.size ≠ bo := T3.out.ne_ L3 (by decide) |> Ne.symm
          have HT := Lib.hid T3
          have HB3 := Lib.hid B3
          have HL3 := Lib.hid L3
          have HO := Lib.hid hos
          clear T3 B3 L3 hos
          go_wp2_with fail
          have T4 := ((HT.out.setOut (tset_hit HO.out false noTurn)).setOut (tset_left HO.out true _)).setOut (tset_out HO.out (minK ps ps.length) _)
          have n5 := HB3.out.ne_ HT.out.out (by decide)
          have B4 := ((HB3.out.far (p := ⟨bo, k * 3, none⟩) n5 (.bool false)).far (p := ⟨bo, k * 3 + 1, none⟩) n5 (.bool true)).far (p := ⟨bo, k * 3 + 2, none⟩) n5 (.int .u32 (minK ps ps.length))
          refine (indexPlace_any _ ps.length cT ps (minK ps ps.length) (minX ps ps.length) _ (Reads.of_own T4.there) (by omega)).mono ?_
          rintro e W5 ⟨hb5, ⟨rfl, hnone⟩ | ⟨j, hj, hjm, rfl⟩⟩
          · obtain ⟨i, hi, hie⟩ := min_mem ps ps.length hps1
            exact absurd hie (hnone i hi)
          have T5 := T4.step hb5
          have B5 := B4.below hb5 B4.lt
          have hlen : (ps.eraseIdx j).length = ps.length - 1 := by rw [List.length_eraseIdx, if_pos hj]
          have hd := delete_any gT ps.length cT j w.heap.size ps W5 T5.there hj (by omega)
          rw [show ((j + 1 : Nat) : Int) = (j : Int) + 1 from by omega] at hd
          have HD := Lib.hid hd
          have HT5 := Lib.hid T5
          have HB5 := Lib.hid B5
          have HJM := Lib.hid hjm
          clear T4 B4 T5 B5 hb5 hd HT HB3 HL3 o0 o1 o2 f0 f1 f2 l0 l1 hjm
          go_wp2_with fail
          refine (HD.out).mono ?_
          rintro e W2' ⟨rfl, hown6, hg6⟩
          have T6 := HT5.out.turnThere (vT' := .slice (some ⟨gT, 0, none⟩) (ps.length - 1) cT) (m' := ps.length - 1) hg6 hown6
          have b2 := HB5.out.grown hg6 (blk_far HB5.out HT5.out.there (by decide))
          clear HD HT5 HB5 hg6 hown6
          rw [← hlen] at T6 ⊢
          have k2 := b2.cell 0
          simp only [List.getElem?_toArray, List.getElem?_cons_zero] at k2
          obtain ⟨b3, o3, e3, _, cN'⟩ := (Reads.of_own T6.next).int_at hlt
          injection e3 with e3
          injection e3 with e3 e4
          subst e3 e4
          rw [Nat.zero_add, nextsTo_at hlt] at cN'
          have HT := Lib.hid T6
          have n1 := blk_far b2 T6.there (by decide)
          have n2 : some gN ≠ (Value.slice (some ⟨gT, 0, none⟩) (ps.eraseIdx j).length cT).ownBlock := by
            have := own_far T6.next T6.there (by decide)
            exact this.resolve_left (by simp [Value.ownBlock])
          have hown := T6.there
          have hnn : w.heap.size ≤ W2'.heap.size := T6.below.size
          have hk0 : (0 : Int) ≤ (k : Int) := Int.natCast_nonneg _
          have hk1 : (k : Int) < (n : Int) := by omega
          have HK2 := Lib.hid k2
          have HC2 := Lib.hid cN'
          have hle : (ps.eraseIdx j).length ≤ 1024 := by omega
          have HLE := Lib.hid hlen
          clear T6 b2 hlen
          go_wp2
          go_region_held3 (fun w' => w'.cell? ⟨wr.heap.size, 0, none⟩ = some (.int .u32 (nth tr k)) ∧ w'.cell? ⟨gN, k, none⟩ = some (.int .i64 (nxt tr (k + 1) (nth tr k))))
            (first
              | go_keep
              | (exact ⟨hg'.cell HK2.out n1, hg'.cell HC2.out n2⟩))
            ((refine step_app1 W2' rfl (.tmp 73) (.tmp 80) 62 rfl w.heap.size 65 2 16 _ info65 Try.underlying62 rfl (by omega) (.slice (some ⟨gT, 0, none⟩) (ps.eraseIdx j).length cT) (ps.eraseIdx j).length (pcells (ps.eraseIdx j)) [.int .u32 (nth tr k), .int .i64 (nxt tr (k + 1) (nth tr k))] (by rfl) hown rfl (by simp [Value.oneCell']) (by rfl) (by unfold maxLen; omega) (by omega) hnn ?_; intro v' w3 hown' hg'))
          clear hown hnn
          have T3 := HT.out.turnThere (vT' := v') (m' := (ps.eraseIdx j).length + 1) (ps' := ps.eraseIdx j ++ [(nth tr k, (nxt tr (k + 1) (nth tr k) : Int))]) hg' (by rw [pcells_app]; exact hown')
          have HT3 := Lib.hid T3
          clear T3 hg' hown' n1 n2
          go_wp2
          go_roundw
          case rel =>
            refine ⟨k + 1, os ++ [⟨false, true, minK ps ps.length⟩], _, by omega, by go_num, ?_, HPI.out.full hkt.out HNO.out HF.out hs1 hj HJM.out⟩
            rw [List.length_append, List.append_assoc]
            exact HT3.out
          case measure => simp [intOf]; omega
        · have hbb : ((ps.length : Int) == (s : Int)) = false := by rw [beq_eq_false_iff_ne]; omega
          have HF := Lib.hid hfull
          have HT := Lib.hid T2
          have n1 := blk_far b2 T2.there (by decide)
          have n2 : some gN ≠ (Value.slice AT ps.length cT).ownBlock := by
            have := own_far T2.next T2.there (by decide)
            exact this.resolve_left (by simp [Value.ownBlock])
          have hown := T2.there
          have hnn : w.heap.size ≤ W2.heap.size := T2.below.size
          have hk0 : (0 : Int) ≤ (k : Int) := Int.natCast_nonneg _
          have hk1 : (k : Int) < (n : Int) := by omega
          have HK2 := Lib.hid k2
          have HC2 := Lib.hid cN'
          clear T2 hfull hos b2
          go_wp2
          go_region_held3 (fun w' => w'.cell? ⟨wr.heap.size, 0, none⟩ = some (.int .u32 (nth tr k)) ∧ w'.cell? ⟨gN, k, none⟩ = some (.int .i64 (nxt tr (k + 1) (nth tr k))))
            (first
              | go_keep
              | (exact ⟨hg'.cell HK2.out n1, hg'.cell HC2.out n2⟩))
            ((refine step_app1 W2 rfl (.tmp 73) (.tmp 80) 62 rfl w.heap.size 65 2 16 _ info65 Try.underlying62 rfl (by omega) (.slice AT ps.length cT) ps.length (pcells ps) [.int .u32 (nth tr k), .int .i64 (nxt tr (k + 1) (nth tr k))] (by rfl) hown rfl (by simp [Value.oneCell']) (by rfl) (by unfold maxLen; omega) (by omega) hnn ?_; intro v' w3 hown' hg'))
          clear hown hnn
          have T3 := HT.out.turnThere (vT' := v') (m' := ps.length + 1) (ps' := ps ++ [(nth tr k, (nxt tr (k + 1) (nth tr k) : Int))]) hg' (by rw [pcells_app]; exact hown')
          have HT3 := Lib.hid T3
          clear T3 hg' hown' n1 n2
          go_wp2
          go_roundw
          case rel =>
            refine ⟨k + 1, os ++ [⟨false, false, 0⟩], _, by omega, by go_num, ?_, HPI.out.room_ hkt.out HNO.out (by have := HF.out; omega)⟩
            have := HT3.out
            rw [rep_cons hlt] at this
            rw [List.length_append, List.append_assoc]
            exact this
          case measure => simp [intOf]; omega
      · clear HIF
        have T2 := T1.out.step hb2
        clear T1 b1 hb2
        have hos := HPI.out.len
        rw [rep_cons hlt] at T2
        have co := T2.out.cell (k * 3)
        have fo := T2.out.frozen (k * 3)
        have hco : (tcells (os ++ noTurn :: List.replicate (n - (k + 1)) noTurn)).toArray[k * 3]? = some (.bool false) := by
          have := (tcells_at (os ++ noTurn :: List.replicate (n - (k + 1)) noTurn) k (by simp; omega)).1
          rw [tnth_mid hos] at this
          rw [List.getElem?_toArray]
          exact this
        rw [hco] at co
        clear hco
        obtain ⟨b3, o3, e3, _, cN'⟩ := (Reads.of_own T2.next).int_at hlt
        injection e3 with e3
        injection e3 with e3 e4
        subst e3 e4
        rw [Nat.zero_add, nextsTo_at hlt] at cN'
        obtain ⟨gT, cT', e5, hgT, _⟩ := T2.there.form (by omega)
        injection e5 with e5 e6 e7
        subst e5 e7
        obtain ⟨b3, o3, e3, _, _, cP⟩ := (Reads.of_own T2.there).place_at hj
        injection e3 with e3
        injection e3 with e3 e4
        subst e3 e4
        rw [Nat.zero_add] at cP
        have fP := T2.there.frozenAt (j * 2 + 1)
        have n1 : gN ≠ bo := fun e => blk_far T2.out T2.next (by decide) (by rw [← e]; rfl)
        have n2 : gT ≠ bo := fun e => blk_far T2.out T2.there (by decide) (by rw [← e]; rfl)
        have HT := Lib.hid T2
        have HJ := Lib.hid hjk
        have HO := Lib.hid hos
        clear T2 hjk hos e6
        go_wp2
        go_roundw
        case rel =>
          refine ⟨k + 1, os ++ [⟨true, false, 0⟩], ps.set j (pkey ps j, (nxt tr (k + 1) (nth tr k) : Int)), by omega, by go_num, ?_, HPI.out.hit hkt.out hj HJ.out⟩
          have t3 := HT.out.setOut (tset_hit HO.out true noTurn)
          have hst := t3.there.stored (j * 2 + 1) (.int .i64 (nxt tr (k + 1) (nth tr k)))
          rw [pset_next] at hst
          have t4 := t3.turnThere (vT' := .slice (some ⟨gT, 0, none⟩) ps.length cT) (m' := ps.length) hst.2 hst.1
          rw [List.length_set, List.append_assoc]
          exact t4
        case measure => simp [intOf]; omega
    · obtain rfl : k = n := by omega
      have hos := HPI.out.turns
      rw [List.drop_eq_nil_of_le (by rw [HLN.out]; exact Nat.le_refl _)] at hos
      have HOS := Lib.hid hos
      have HT := Lib.hid hTI
      clear hos hTI
      go_wp2
      go_ret2
      have ht := HT.out.out
      simp only [Nat.sub_self, List.replicate_zero, List.append_nil] at ht
      refine ⟨bo, rfl, hbB, ?_, HT.out.below⟩
      rw [HOS.out]
      simpa [turnsL] using ht
end Go.Proofs.Ythclmacnmbmepaa
