import Derived.Test.YthclmacnmbmepaaWb
namespace Go.Proofs.Ythclmacnmbmepaa
open Go.RowKit Bel

theorem nth_ext {xs ys : List Int} (hl : xs.length = ys.length) (h : ∀ j, j < xs.length → nth xs j = nth ys j) : xs = ys := by
  refine List.ext_getElem hl fun j h1 h2 => ?_
  have := h j h1
  rwa [nth_eq h1, nth_eq h2] at this
theorem tnth_ext {xs ys : List Turn} (hl : xs.length = ys.length) (h : ∀ j, j < xs.length → tnth xs j = tnth ys j) : xs = ys := by
  refine List.ext_getElem hl fun j h1 h2 => ?_
  have := h j h1
  rwa [tnth_eq h1, tnth_eq h2] at this

set_option maxHeartbeats 400000 in
/-- 'Ints' of the reference. -/
theorem ints_any (A D : Option Addr) (n c m d : Nat) (xs ys : List Int) (w : World) (B : Nat) (h : Reads w B 1 A n (ints .i64 xs)) (h' : Reads w B 1 D m (ints .i64 ys)) (hn : n ≤ 1000000) (hm : m ≤ 1000000) :
    Calls Try.prog 11 #[.slice A n c, .slice D m d] w fun e w' => e = .returned (.bool (decide (xs = ys))) ∧ ∃ q, w' = w.drewN q := by
  have HL := Lib.hid h.int_len
  have HM := Lib.hid h'.int_len
  by_cases hnm : n = m
  · obtain rfl : n = m := hnm
    have hb : ((n : Int) != (n : Int)) = false := by simp
    go_enter Try.func11, Try.ntmps11
    go_wp2
    go_loopw [5] (fun x wr => (∃ q, wr = w.drewN q) ∧ ∃ j : Nat, j ≤ n ∧ x = .int .i64 j ∧ ∀ i, i < j → nth xs i = nth ys i) (fun x _ => n - (intOf x).toNat)
    case atStart => exact ⟨⟨0, rfl⟩, 0, Nat.zero_le _, rfl, fun i hi => by omega⟩
    case round =>
      obtain ⟨⟨q, rfl⟩, j, hj, rfl, he⟩ := hrel
      have HE := Lib.hid he
      clear he
      by_cases hlt : j < n
      · obtain ⟨b, o, rfl, _, hc⟩ := h.int_at hlt
        obtain ⟨b', o', rfl, _, hc'⟩ := h'.int_at hlt
        by_cases hk : nth xs j = nth ys j
        · have hb : (nth xs j != nth ys j) = false := by simpa using hk
          have HK := Lib.hid hk
          clear hk
          go_wp2
          go_quiet (fail)
          all_goals go_wp2
          go_roundw
          case rel => exact ⟨⟨_, rfl⟩, j + 1, by omega, by go_num, fun i hi => by
            rcases Nat.lt_succ_iff_lt_or_eq.1 hi with h1 | h1
            · exact HE.out i h1
            · rw [h1]; exact HK.out⟩
          case measure => simp [intOf]; omega
        · have hb : (nth xs j != nth ys j) = true := by simpa using hk
          have HK := Lib.hid hk
          clear hk
          go_wp2
          go_quiet (fail)
          all_goals go_wp2
          go_ret
          exact ⟨ret_bool (by
            have : xs ≠ ys := fun e => HK.out (by rw [e])
            simp [this]), _, (World.drewN_drewN ..)⟩
      · go_wp2
        go_ret
        exact ⟨ret_bool (by
          have : xs = ys := nth_ext (by rw [HL.out, HM.out]) fun i hi => HE.out i (by rw [HL.out] at hi; omega)
          simp [this]), _, rfl⟩
  · have hb : ((n : Int) != (m : Int)) = true := by rw [bne_iff_ne]; omega
    have HN := Lib.hid hnm
    clear hnm
    go_enter Try.func11, Try.ntmps11
    go_wp2
    go_ret
    exact ⟨ret_bool (by
      have : xs ≠ ys := fun e => HN.out (by rw [← HL.out, ← HM.out, e])
      simp [this]), 0, rfl⟩

def turnV (t : Turn) : Value := .agg #[.bool t.hit, .bool t.left, .int .u32 t.out]
theorem equalIn_turn (w : World) (a b a' b' : Bool) (c c' : Int) :
    (Op.equalIn 10000 50 (.agg #[.bool a, .bool b, .int .u32 c]) (.agg #[.bool a', .bool b', .int .u32 c'])).run Try.prog w = .ok (a == a' && (b == b' && c == c')) w := by
  have hS : Try.prog.underlying 50 = some (.struct (Try.prog.fieldsOf 50)) := by kernel_rfl
  have hp : Try.prog.stoodInHeld 50 = false := by kernel_rfl
  rw [show (10000 : Nat) = 9999 + 1 from rfl, run_equalIn_agg w 9999 50 _ _ hS hp]
  have u4 := Try.underlying4
  have u45 := Try.underlying45
  have a4 := Try.isAgg4
  have z4 := Try.sizeOf4
  have a45 := Try.isAgg45
  have z45 := Try.sizeOf45
  simp only [Program.fieldsOf, Try.underlying50]
  go_simp
  by_cases h : c = c' <;> cases a <;> cases a' <;> cases b <;> cases b' <;> simp [h]
theorem run_neq_turn (w : World) (a b a' b' : Bool) (c c' : Int) :
    (binOp .neq 50 (.agg #[.bool a, .bool b, .int .u32 c]) (.agg #[.bool a', .bool b', .int .u32 c'])).run Try.prog w = .ok (.bool (!(a == a' && (b == b' && c == c')))) w := by
  rw [run_neq_struct, equalIn_turn]; rfl

set_option maxHeartbeats 400000 in
/-- 'Same' of the reference. -/
theorem same_any (A D : Option Addr) (n c m d : Nat) (xs ys : List Turn) (w : World) (B : Nat) (h : Reads w B 3 A n (tcells xs)) (h' : Reads w B 3 D m (tcells ys)) (hn : n ≤ 1000000) (hm : m ≤ 1000000) :
    Calls Try.prog 17 #[.slice A n c, .slice D m d] w fun e w' => e = .returned (.bool (decide (xs = ys))) ∧ ∃ q, w' = w.drewN q := by
  have HL := Lib.hid h.turn_len
  have HM := Lib.hid h'.turn_len
  by_cases hnm : n = m
  · obtain rfl : n = m := hnm
    have hb : ((n : Int) != (n : Int)) = false := by simp
    go_enter Try.func17, Try.ntmps17
    go_wp2
    go_loopw [5] (fun x wr => (∃ q, wr = w.drewN q) ∧ ∃ j : Nat, j ≤ n ∧ x = .int .i64 j ∧ ∀ i, i < j → tnth xs i = tnth ys i) (fun x _ => n - (intOf x).toNat)
    case atStart => exact ⟨⟨0, rfl⟩, 0, Nat.zero_le _, rfl, fun i hi => by omega⟩
    case round =>
      obtain ⟨⟨q, rfl⟩, j, hj, rfl, he⟩ := hrel
      have HE := Lib.hid he
      clear he
      by_cases hlt : j < n
      · obtain ⟨b, o, rfl, _, h0, h1, h2⟩ := h.turn_at hlt
        obtain ⟨b', o', rfl, _, h0', h1', h2'⟩ := h'.turn_at hlt
        have hrun := fun W => run_neq_turn W (tnth xs j).hit (tnth xs j).left (tnth ys j).hit (tnth ys j).left (tnth xs j).out (tnth ys j).out
        by_cases hk : tnth xs j = tnth ys j
        · have hb : ((tnth xs j).hit == (tnth ys j).hit && ((tnth xs j).left == (tnth ys j).left && (tnth xs j).out == (tnth ys j).out)) = true := by simp [hk]
          have HK := Lib.hid hk
          clear hk
          rw [hb] at hrun
          clear hb
          go_wp2
          go_quiet (fail)
          all_goals go_wp2
          go_roundw
          case rel => exact ⟨⟨_, rfl⟩, j + 1, by omega, by go_num, fun i hi => by
            rcases Nat.lt_succ_iff_lt_or_eq.1 hi with h1 | h1
            · exact HE.out i h1
            · rw [h1]; exact HK.out⟩
          case measure => simp [intOf]; omega
        · have hb : ((tnth xs j).hit == (tnth ys j).hit && ((tnth xs j).left == (tnth ys j).left && (tnth xs j).out == (tnth ys j).out)) = false := by
            rw [Bool.eq_false_iff]
            intro e
            simp only [Bool.and_eq_true, beq_iff_eq] at e
            exact hk (by
              cases hx : tnth xs j; cases hy : tnth ys j
              rw [hx, hy] at e
              obtain ⟨e1, e2, e3⟩ := e
              simp only at e1 e2 e3
              rw [e1, e2, e3])
          have HK := Lib.hid hk
          clear hk
          rw [hb] at hrun
          clear hb
          go_wp2
          go_quiet (fail)
          all_goals go_wp2
          go_ret
          exact ⟨ret_bool (by
            have : xs ≠ ys := fun e => HK.out (by rw [e])
            simp [this]), _, (World.drewN_drewN ..)⟩
      · go_wp2
        go_ret
        exact ⟨ret_bool (by
          have : xs = ys := tnth_ext (by rw [HL.out, HM.out]) fun i hi => HE.out i (by rw [HL.out] at hi; omega)
          simp [this]), _, rfl⟩
  · have hb : ((n : Int) != (m : Int)) = true := by rw [bne_iff_ne]; omega
    have HN := Lib.hid hnm
    clear hnm
    go_enter Try.func17, Try.ntmps17
    go_wp2
    go_ret
    exact ⟨ret_bool (by
      have : xs ≠ ys := fun e => HN.out (by rw [← HL.out, ← HM.out, e])
      simp [this]), 0, rfl⟩

/-- 'append(s, x)' of one element onto a row of the call's own. -/
theorem wpList_app1 {P : Program} {ops : Array Oper} {rest : List Oper} {o : Oper} {a : Act} {Q : Exit → Act → World → Prop} (w0 : World) (hgd : o.guard = none) (s x : Operand) (t : TypeId)
    (ho : o.op = .call { callee := .builtin .append, args := #[s, x], argTypes := #[t, t] })
    (base : Nat) (e : TypeId) (size bytes : Nat) (z : Value) (hinfo : (P.info? e).map (fun i => (i.zero, i.size, i.bytes)) = some (some z, size, bytes)) (ht : P.underlying t = some (.slice e)) (hzs : z.cells.size = size) (hsz : 0 < size)
    (v : Value) (n : Nat) (xs cs : List Value) (hs : a.eval s = v) (hown : w0.ownsRow base e size v n xs) (hcs : cs.length = size) (h1 : ∀ u ∈ cs, u.oneCell' = true)
    (hx : a.eval x = .slice (some ⟨w0.heap.size, 0, none⟩) 1 1) (h63 : n + 1 ≤ maxLen) (hbytes : (n + 1) * bytes ≤ 140737488355328) (hbase : base ≤ w0.heap.size)
    (h : ∀ v' w', w'.ownsRow base e size v' (n + 1) (xs ++ cs) → w0.grownBy w' v.ownBlock → wpList P ops Q rest (a.put o.dst v') w') : wpList P ops Q (o :: rest) a (w0.alloc (.cells cs.toArray e)) := by
  obtain ⟨i0, hi, hz0, hz1, hz2⟩ := info_parts hinfo
  refine wpList_append_own (w0.alloc (.cells cs.toArray e)) hgd s x t ho base e i0 z size bytes ht hi hz0 hz1 hz2 hzs hsz v n xs hs (hown.alloc _) ⟨w0.heap.size, 0, none⟩ 1 1 cs hx (by omega) ?_ h1 h63 hbytes (by simp; omega) ?_
  · intro j u hj
    have hs : (w0.alloc (.cells cs.toArray e)).heap[w0.heap.size]? = some (.cells cs.toArray e) := heap_alloc_new w0 _
    rw [add_spot _ _ rfl]
    simp only [Nat.zero_add]
    unfold World.cell?
    rw [hs]
    simpa using hj
  · intro v' w' hown' hg _
    exact h v' w' hown' ((World.grownBy_alloc _ _ _).trans hg)

theorem info3 : (Try.prog.info? 3).map (fun i => (i.zero, i.size, i.bytes)) = some (some (.int .i64 0), 1, 8) := by kernel_rfl
theorem info45 : (Try.prog.info? 45).map (fun i => (i.zero, i.size, i.bytes)) = some (some (.int .u32 0), 1, 4) := by kernel_rfl
theorem info50 : (Try.prog.info? 50).map (fun i => (i.zero, i.size, i.bytes)) = some (some (.agg #[.bool false, .bool false, .int .u32 0]), 3, 8) := by kernel_rfl

theorem below_grew {w w1 w2 : World} {v : Value} {n : Nat} {xs : List Value} {e size : Nat} (hb : Below w.heap.size w w1) (hown : w1.ownsRow w.heap.size e size v n xs) (hg : w1.grownBy w2 v.ownBlock) : Below w.heap.size w w2 :=
  hb.grown hg hb.size fun k hk => (hown.lt k hk).1

def nextsTo (tr : List Int) (j : Nat) : List Int := (List.range j).map fun i => (nxt tr (i + 1) (nth tr i) : Int)
theorem nextsTo_succ (tr : List Int) (j : Nat) : nextsTo tr (j + 1) = nextsTo tr j ++ [(nxt tr (j + 1) (nth tr j) : Int)] := by unfold nextsTo; rw [List.range_succ, List.map_append]; rfl
theorem nextsTo_len (tr : List Int) (j : Nat) : (nextsTo tr j).length = j := by simp [nextsTo]
theorem ints_snoc (k : IntKind) (xs : List Int) (x : Int) : ints k (xs ++ [x]) = ints k xs ++ [.int k x] := by simp [ints]

set_option maxHeartbeats 400000 in
/-- 'Next' of the reference. -/
theorem rnext_any (A : Option Addr) (n c : Nat) (tr : List Int) (w : World) (h : Reads w w.heap.size 1 A n (ints .u32 tr)) (hn : n ≤ 1000000) :
    Calls Try.prog 12 #[.slice A n c] w fun e w' => ∃ v, e = .returned v ∧ w'.ownsRow w.heap.size 3 1 v n (ints .i64 (nextsTo tr n)) ∧ Below w.heap.size w w' := by
  go_enter Try.func12, Try.ntmps12
  go_wp2
  go_loopw [3, 4] (fun v x wr => Below w.heap.size w wr ∧ ∃ j : Nat, j ≤ n ∧ x = .int .i64 j ∧ wr.ownsRow w.heap.size 3 1 v j (ints .i64 (nextsTo tr j))) (fun _ x _ => n - (intOf x).toNat)
  case atStart => exact ⟨Below.refl _ _, 0, Nat.zero_le _, rfl, World.ownsRow_nil _ _ _ _⟩
  case round =>
    obtain ⟨hb, j, hj, rfl, hown⟩ := hrel
    by_cases hlt : j < n
    · have hr := h.below hb
      obtain ⟨b, o, rfl, _, hc⟩ := hr.int_at hlt
      have hnx := next_any (some ⟨b, o, none⟩) n c (j + 1) (nth tr j) tr wr _ hr hn (by omega)
      have HN := Lib.hid hnx
      clear hnx
      go_wp2_with (first
        | (go_at_call 31; refine (HN.out).mono ?_; rintro e w' ⟨rfl, rfl⟩)
        | (at_builtin; go_must (refine wpList_app1 wr rfl (.tmp 11) (.tmp 20) 24 rfl w.heap.size 3 1 8 _ info3 Try.underlying24 rfl (by omega) _ j _ [.int .i64 (nxt tr (j + 1) (nth tr j))] rfl hown rfl (by simp [Value.oneCell']) rfl (by unfold maxLen; omega) (by omega) hb.size ?_); intro v' w1 hown' hg'))
      go_roundw
      case rel => exact ⟨below_grew hb hown hg', j + 1, by omega, by go_num, by rw [nextsTo_succ, ints_snoc]; exact hown'⟩
      case measure => simp [intOf]; omega
    · go_wp2
      go_ret
      obtain rfl : j = n := by omega
      exact ⟨_, rfl, hown, hb⟩

/-- The keys but for one, of the first places. -/
def woTo (zs : List Int) (k : Int) (j : Nat) : List Int := wo (zs.take j) k
theorem woTo_yes {zs : List Int} {k : Int} {j : Nat} (h : j < zs.length) (hk : nth zs j ≠ k) : woTo zs k (j + 1) = woTo zs k j ++ [nth zs j] := by
  unfold woTo
  rw [List.take_succ_eq_append_getElem h, wo_app, nth_eq h]
  rw [nth_eq h] at hk
  congr 1
  unfold wo; simp [hk]
theorem woTo_no {zs : List Int} {k : Int} {j : Nat} (h : j < zs.length) (hk : nth zs j = k) : woTo zs k (j + 1) = woTo zs k j := by
  unfold woTo
  rw [List.take_succ_eq_append_getElem h, wo_app]
  rw [nth_eq h] at hk
  unfold wo; simp [hk]
theorem woTo_all {zs : List Int} {k : Int} {j : Nat} (h : zs.length ≤ j) : woTo zs k j = wo zs k := by unfold woTo; rw [List.take_of_length_le h]
theorem woTo_len (zs : List Int) (k : Int) (j : Nat) : (woTo zs k j).length ≤ j := by
  unfold woTo wo
  exact Nat.le_trans (List.length_filter_le _ _) (List.length_take_le _ _)

set_option maxHeartbeats 400000 in
/-- 'without' of the reference. -/
theorem without_any (A : Option Addr) (n c : Nat) (k : Int) (zs : List Int) (w : World) (h : Reads w w.heap.size 1 A n (ints .u32 zs)) (hn : n ≤ 1000000) :
    Calls Try.prog 40 #[.slice A n c, .int .u32 k] w fun e w' => ∃ v, e = .returned v ∧ w'.ownsRow w.heap.size 45 1 v (wo zs k).length (ints .u32 (wo zs k)) ∧ Below w.heap.size w w' := by
  have HL := Lib.hid h.int_len
  go_enter Try.func40, Try.ntmps40
  go_wp2
  go_loopw [5, 6] (fun v x wr => Below w.heap.size w wr ∧ ∃ j : Nat, j ≤ n ∧ x = .int .i64 j ∧ wr.ownsRow w.heap.size 45 1 v (woTo zs k j).length (ints .u32 (woTo zs k j))) (fun _ x _ => n - (intOf x).toNat)
  case atStart => exact ⟨Below.refl _ _, 0, Nat.zero_le _, rfl, World.ownsRow_nil _ _ _ _⟩
  case round =>
    obtain ⟨hb, j, hj, rfl, hown⟩ := hrel
    have hle := woTo_len zs k j
    by_cases hlt : j < n
    · have hr := h.below hb
      obtain ⟨b, o, rfl, _, hc⟩ := hr.int_at hlt
      by_cases hk : nth zs j = k
      · have hbb : (nth zs j != k) = false := by simpa using hk
        have HK := Lib.hid hk
        clear hk
        go_wp2
        go_roundw
        case rel => exact ⟨hb, j + 1, by omega, by go_num, by rw [woTo_no (by rw [HL.out]; exact hlt) HK.out]; exact hown⟩
        case measure => simp [intOf]; omega
      · have hbb : (nth zs j != k) = true := by simpa using hk
        have HK := Lib.hid hk
        clear hk
        go_wp2_with (first
          | (at_builtin; go_must (refine wpList_app1 wr rfl (.tmp 19) (.tmp 24) 22 rfl w.heap.size 45 1 4 _ info45 Try.underlying22 rfl (by omega) _ _ _ [.int .u32 (nth zs j)] rfl hown rfl (by simp [Value.oneCell']) rfl (by unfold maxLen; omega) (by omega) hb.size ?_); intro v' w1 hown' hg'))
        go_roundw
        case rel => exact ⟨below_grew hb hown hg', j + 1, by omega, by go_num, by rw [woTo_yes (by rw [HL.out]; exact hlt) HK.out, ints_snoc, List.length_append]; exact hown'⟩
        case measure => simp [intOf]; omega
    · go_wp2
      go_ret
      refine ⟨_, rfl, ?_, hb⟩
      rw [woTo_all (by rw [HL.out]; omega)] at hown
      exact hown

/-- How many of the first keys are new. -/
def diffTo (tr : List Int) (j : Nat) : Nat := ((List.range j).filter fun i => nxt tr 0 (nth tr i) == i).length
theorem diffTo_succ (tr : List Int) (j : Nat) : diffTo tr (j + 1) = diffTo tr j + if nxt tr 0 (nth tr j) = j then 1 else 0 := by
  unfold diffTo
  rw [List.range_succ, List.filter_append, List.length_append]
  by_cases h : nxt tr 0 (nth tr j) = j <;> simp [h]
theorem diffTo_le (tr : List Int) (j : Nat) : diffTo tr j ≤ j := by
  unfold diffTo
  exact Nat.le_trans (List.length_filter_le _ _) (by simp)

set_option maxHeartbeats 400000 in
/-- 'Different' of the reference. -/
theorem different_any (A : Option Addr) (n c : Nat) (tr : List Int) (w : World) (B : Nat) (h : Reads w B 1 A n (ints .u32 tr)) (hn : n ≤ 1000000) :
    Calls Try.prog 24 #[.slice A n c] w fun e w' => e = .returned (.int .i64 (diffTo tr n)) ∧ w = w' := by
  go_enter Try.func24, Try.ntmps24
  go_wp2
  go_loop [3, 4] (fun y x => ∃ j : Nat, j ≤ n ∧ x = .int .i64 j ∧ y = .int .i64 (diffTo tr j)) (fun _ x => n - (intOf x).toNat)
  case atStart => exact ⟨0, Nat.zero_le _, rfl, rfl⟩
  case round =>
    obtain ⟨j, hj, rfl, rfl⟩ := hrel
    have hle := diffTo_le tr j
    by_cases hlt : j < n
    · obtain ⟨b, o, rfl, _, hc⟩ := h.int_at hlt
      have HN := Lib.hid (next_any (some ⟨b, o, none⟩) n c 0 (nth tr j) tr w B h hn (by omega))
      by_cases hk : nxt tr 0 (nth tr j) = j
      · have hbb : ((nxt tr 0 (nth tr j) : Int) == (j : Int)) = true := by simp [hk]
        have HK := Lib.hid hk
        clear hk
        go_wp2_with (go_at_call 31; refine (HN.out).mono ?_; rintro e w' ⟨rfl, rfl⟩)
        go_round
        case rel => exact ⟨j + 1, by omega, by go_num, by rw [diffTo_succ, if_pos HK.out]; go_num⟩
        case measure => simp [intOf]; omega
      · have hbb : ((nxt tr 0 (nth tr j) : Int) == (j : Int)) = false := by simp; omega
        have HK := Lib.hid hk
        clear hk
        go_wp2_with (go_at_call 31; refine (HN.out).mono ?_; rintro e w' ⟨rfl, rfl⟩)
        go_round
        case rel => exact ⟨j + 1, by omega, by go_num, by rw [diffTo_succ, if_neg HK.out]; go_num⟩
        case measure => simp [intOf]; omega
    · go_wp2
      go_ret
      obtain rfl : j = n := by omega
      exact ⟨rfl, rfl⟩
end Go.Proofs.Ythclmacnmbmepaa
