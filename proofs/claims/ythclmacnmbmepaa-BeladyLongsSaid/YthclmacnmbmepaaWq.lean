import Derived.Test.YthclmacnmbmepaaWk
namespace Go.Proofs.Ythclmacnmbmepaa
open Go.RowKit Bel Go.Maps Go.Shelf

theorem wo_lt {S : List Int} {k : Int} (h : k ∈ S) : (wo S k).length < S.length := by
  unfold wo
  exact List.length_filter_lt_length_iff_exists.2 ⟨k, h, by simp⟩

/-- What the loop over the keys has found, j of them tried. -/
def mxTo (s : Nat) (t S : List Int) (r : Int) (j : Nat) : Nat := mx ((S.take j).map fun k => V s t (wo (S ++ [r]) k))
theorem mxTo_zero (s : Nat) (t S : List Int) (r : Int) : mxTo s t S r 0 = 0 := rfl
theorem mxTo_succ {s : Nat} {t S : List Int} {r : Int} {j : Nat} (hj : j < S.length) : mxTo s t S r (j + 1) = max (mxTo s t S r j) (V s t (wo (S ++ [r]) (nth S j))) := by
  unfold mxTo
  rw [List.take_add_one, List.getElem?_eq_getElem hj, nth_eq hj, Option.toList_some, List.map_append, mx, List.foldl_append]
  rfl
theorem mxTo_all {s : Nat} {t S : List Int} {r : Int} (h : r ∉ S) (hs : ¬ S.length < s) : mxTo s t S r S.length = V s (r :: t) S := by
  rw [V_full h hs, mxTo, List.take_length]
theorem V_len (s : Nat) : ∀ (t S : List Int), V s t S ≤ t.length := by
  intro t
  induction t with
  | nil => intro S; exact Nat.zero_le _
  | cons r t ih =>
    intro S
    by_cases h : r ∈ S
    · rw [V_hit h]; have := ih S; simp; omega
    · by_cases hs : S.length < s
      · rw [V_room h hs]; have := ih (S ++ [r]); simp; omega
      · exact V_le h hs fun k _ => by have := ih (wo (S ++ [r]) k); simp; omega

section
variable {ops : Array Oper} {o : Oper} {a : Act} {K : Act → World → Prop} {Q : Exit → Act → World → Prop} {E : Prop}
/-- 'append([]uint32(nil), zs...)', in a drawing region. -/
theorem step_copy (W : World) (hgd : o.guard = none) (s x : Operand) (ho : o.op = .call { callee := .builtin .append, args := #[s, x], argTypes := #[22, 22] }) (hs : a.eval s = .slice none 0 0)
    (base B : Nat) (D : Option Addr) (m c : Nat) (S : List Int) (hx : a.eval x = .slice D m c) (hr : Reads W B 1 D m (ints .u32 S)) (hm : m ≤ 4096) (hbase : base ≤ W.heap.size)
    (h : ∀ v' w', w'.ownsRow base 45 1 v' m (ints .u32 S) → W.grownBy w' none → K (a.put o.dst v') w') :
    if Region.wanted o (yielded ops a.tmps) = true then Oper.wp Try.prog o a W K Q else E := by
  obtain ⟨i0, hi, hz0, hz1, hz2⟩ := info_parts info45
  refine step_append_any (w := W) hgd s x 22 ho base 45 i0 _ 1 4 Try.underlying22 hi hz0 hz1 hz2 rfl (by omega) (.slice none 0 0) 0 [] hs (World.ownsRow_nil _ _ _ _) B D m c (ints .u32 S) hx hr (by simp [ints, Value.oneCell']) (by unfold maxLen; omega) (by omega) hbase ?_
  intro v' w' hown hg _
  exact h v' w' (by simpa using hown) hg
/-- 'append(v, r)', in a drawing region. -/
theorem step_app_row (W : World) (hgd : o.guard = none) (s x : Operand) (ho : o.op = .call { callee := .builtin .append, args := #[s, x], argTypes := #[22, 22] }) (v : Value) (n : Nat) (S : List Int) (hs : a.eval s = v)
    (base g : Nat) (r : Int) (hx : a.eval x = .slice (some ⟨g, 0, none⟩) 1 1) (hown : W.ownsRow base 45 1 v n (ints .u32 S)) (hr : Blk W g 45 #[.int .u32 r]) (hm : n ≤ 4096) (hbase : base ≤ W.heap.size)
    (h : ∀ v' w', w'.ownsRow base 45 1 v' (n + 1) (ints .u32 (S ++ [r])) → W.grownBy w' v.ownBlock → K (a.put o.dst v') w') :
    if Region.wanted o (yielded ops a.tmps) = true then Oper.wp Try.prog o a W K Q else E := by
  obtain ⟨i0, hi, hz0, hz1, hz2⟩ := info_parts info45
  have hrd : Reads W W.heap.size 1 (some ⟨g, 0, none⟩) 1 [.int .u32 r] := blk_reads (xs := [.int .u32 r]) hr rfl
  refine step_append_any (w := W) hgd s x 22 ho base 45 i0 _ 1 4 Try.underlying22 hi hz0 hz1 hz2 rfl (by omega) v n (ints .u32 S) hs hown W.heap.size _ 1 1 [.int .u32 r] hx hrd (by simp [Value.oneCell']) (by unfold maxLen; omega) (by omega) hbase ?_
  intro v' w' hown' hg _
  exact h v' w' (by rw [ints_snoc]; exact hown') hg
end

theorem max_int {a b c : Nat} (h : c = max a b) : Value.int .i64 (if a < b then (b : Int) else (a : Int)) = Value.int .i64 (c : Int) := by
  congr 1
  rw [h, Nat.max_def]
  split <;> split <;> omega
/-- 'Best' of the reference, asked for. -/
def BestAt (s n c : Nat) (tr : List Int) (A : Option Addr) (i : Nat) : Prop :=
  ∀ (S : List Int) (D : Option Addr) (k d : Nat) (w : World), S.length ≤ s → Reads w w.heap.size 1 A n (ints .u32 tr) → Reads w w.heap.size 1 D k (ints .u32 S) →
    Calls Try.prog 23 #[.slice A n c, .int .i64 s, .int .i64 i, .slice D k d] w fun e w' => e = .returned (.int .i64 (V s (tr.drop i) S)) ∧ Below w.heap.size w w'

set_option maxRecDepth 100000 in
set_option maxHeartbeats 2000000 in
theorem rbest_step (s n c : Nat) (tr : List Int) (A : Option Addr) (i : Nat) (hs1 : 1 ≤ s) (hs2 : s ≤ 1024) (hn : n ≤ 4096) (hi : i < n) (ih : BestAt s n c tr A (i + 1)) : BestAt s n c tr A i := by
  intro S D k d w hS h h'
  have HLN := Lib.hid h.int_len
  have HLS := Lib.hid h'.int_len
  have hkl : k = S.length := HLS.out.symm
  subst hkl
  have hit : Hid (i < tr.length) := by rw [HLN.out]; exact hi
  have HI := Lib.hid ih
  clear ih
  obtain ⟨b, o_, rfl, hbw, hc⟩ := h.int_at hi
  have hi0 : (0 : Int) ≤ (i : Int) := Int.natCast_nonneg _
  have hi1 : (i : Int) < (n : Int) := by omega
  have hi2 : ¬ (i : Int) = (n : Int) := by omega
  have hsum : IntKind.i64.wrap ((i : Int) + 1) = (i : Int) + 1 := by rw [IntKind.wrap_i64]; omega
  have HR := Lib.hid h
  have HR' := Lib.hid h'
  have HAS := Lib.hid (has_any D S.length d (nth tr i) S w _ h' (by omega))
  have HD := Lib.hid (drop_at hit.out)
  have e1 : ((i + 1 : Nat) : Int) = (i : Int) + 1 := by push_cast; rfl
  have HI' : Hid (∀ (S : List Int) (D : Option Addr) (k d : Nat) (w : World), S.length ≤ s → Reads w w.heap.size 1 (some ⟨b, o_, none⟩) n (ints .u32 tr) → Reads w w.heap.size 1 D k (ints .u32 S) →
    Calls Try.prog 23 #[.slice (some ⟨b, o_, none⟩) n c, .int .i64 s, .int .i64 ((i : Int) + 1), .slice D k d] w fun e w' => e = .returned (.int .i64 (V s (tr.drop (i + 1)) S)) ∧ Below w.heap.size w w') := by
    rw [← e1]; exact HI.out
  clear e1 HI
  clear h h'
  by_cases hm : nth tr i ∈ S
  · have hd : decide (nth tr i ∈ S) = true := by simpa using hm
    rw [hd] at HAS
    have HM := Lib.hid hm
    have HC := Lib.hid (HI'.out S D S.length d w hS HR.out HR'.out)
    have HVL := V_len s (tr.drop (i + 1)) S
    have HV := Lib.hid (V_hit (s := s) (t := tr.drop (i + 1)) hm)
    rw [List.length_drop, HLN.out] at HVL
    have hs3 : IntKind.i64.wrap (1 + (V s (tr.drop (i + 1)) S : Int)) = 1 + (V s (tr.drop (i + 1)) S : Int) := by rw [IntKind.wrap_i64]; omega
    clear hd hm
    go_enter Try.func23, Try.ntmps23
    go_wp2_with (first
      | (go_at_call 39; refine (HAS.out).mono ?_; rintro e w' ⟨rfl, rfl⟩)
      | (go_at_call 23; refine (HC.out).mono ?_; rintro e w' ⟨rfl, hb⟩))
    go_ret
    exact ⟨ret_int (by rw [HD.out, HV.out]; push_cast; rfl), hb⟩
  · have hd : decide (nth tr i ∈ S) = false := by simpa using hm
    rw [hd] at HAS
    have HM := Lib.hid hm
    clear hd hm
    have hcA : ∀ o : Obj, (w.alloc o).cell? ⟨b, o_ + i, none⟩ = some (.int .u32 (nth tr i)) := fun x => by rw [World.cell?_alloc_lt w x _ hbw]; exact hc
    by_cases hroom : S.length < s
    · have hr1 : ((S.length : Int) + 1 ≤ (s : Int)) := by omega
      go_enter Try.func23, Try.ntmps23
      go_wp2_with (first
        | (go_at_call 39; refine (HAS.out).mono ?_; rintro e w' ⟨rfl, rfl⟩))
      go_region_held3 (fun w' => w'.cell? ⟨b, o_ + i, none⟩ = some (.int .u32 (nth tr i)))
        (first
          | go_keep
          | (exact hg1.cell (hcA _) (by simp))
          | (exact hg1.cell hc (by simp))
          | (exact hc2))
        (first
          | (refine step_copy w.drew rfl (.const (.slice none 0 0)) (.tmp 29) rfl (by rfl) w.heap.size w.heap.size D S.length d S (by rfl) HR'.out.drew (by omega) (Nat.le_refl _) ?_; intro v1 w1 hown1 hg1; have hcx := hg1.cell hc (by simp); have hsz1 : w.heap.size ≤ w1.heap.size := hg1.size)
          | (refine step_copy (w.alloc (.cells #[.int .u32 (nth tr i)] 45)).drew rfl (.const (.slice none 0 0)) (.tmp 29) rfl (by rfl) w.heap.size w.heap.size D S.length d S (by rfl) (HR'.out.alloc (Nat.le_refl _) _).drew (by omega) (by simp) ?_; intro v1 w1 hown1 hg1; have hcx := hg1.cell (hcA _) (by simp); have hsz1 : w.heap.size ≤ w1.heap.size := Nat.le_trans (by simp) hg1.size)
          | (refine step_app_row (w1.alloc (.cells #[.int .u32 (nth tr i)] 45)) rfl (.tmp 30) (.tmp 35) rfl v1 S.length S (by rfl) w.heap.size w1.heap.size (nth tr i) (by rfl) (hown1.alloc _) (Blk.new w1 45 _) (by omega) (by simp; omega) ?_; intro v2 w2 hown2 hg2; have hb2 : Below w.heap.size w w2 := (((Below.refl _ w).drew.grown hg1 (Nat.le_refl _) (by simp)).alloc hsz1 _).grown hg2 (by simp; omega) (fun j hj => (hown1.lt j hj).1); have hc2 := (hb2.cell (p := ⟨b, o_ + i, none⟩) hbw).trans hc)
          | (refine step_app_row w1 rfl (.tmp 30) (.tmp 35) rfl v1 S.length S (by rfl) w.heap.size w.heap.size (nth tr i) (by rfl) hown1 ((Blk.new w 45 #[.int .u32 (nth tr i)]).drew.grown hg1 (by simp)) (by omega) hsz1 ?_; intro v2 w2 hown2 hg2; have hb2 : Below w.heap.size w w2 := (((Below.refl _ w).alloc (Nat.le_refl _) _).drew.grown hg1 (by simp) (by simp)).grown hg2 hsz1 (fun j hj => (hown1.lt j hj).1); have hc2 := (hb2.cell (p := ⟨b, o_ + i, none⟩) hbw).trans hc))
      all_goals
        clear hg1 hg2 hown1 hcx hsz1
        obtain ⟨A2, c2, rfl, hrd2⟩ := own_shape hown2
        have HC := Lib.hid (HI'.out (S ++ [nth tr i]) A2 (S.length + 1) c2 w2 (by simp; omega) ((HR.out.below hb2).more hb2.size) hrd2)
        have HB := Lib.hid hb2
        have HV := Lib.hid (V_room (s := s) (t := tr.drop (i + 1)) HM.out hroom)
        clear hb2 hown2 hrd2 hc2 hroom
        go_wp2_with fail
        refine (HC.out).mono ?_
        rintro e w' ⟨rfl, hb⟩
        go_wp2
        go_ret
        exact ⟨ret_int (by rw [HD.out, HV.out]), HB.out.trans (hb.mono HB.out.size)⟩
    · have hr1 : ((s : Int) < (S.length : Int) + 1) := by omega
      go_enter Try.func23, Try.ntmps23
      go_wp2_with (first
        | (go_at_call 39; refine (HAS.out).mono ?_; rintro e w' ⟨rfl, rfl⟩))
      go_region_held3 (fun w' => w'.cell? ⟨b, o_ + i, none⟩ = some (.int .u32 (nth tr i)))
        (first
          | go_keep
          | (exact hg1.cell (hcA _) (by simp))
          | (exact hg1.cell hc (by simp))
          | (exact hc2))
        (first
          | (refine step_copy w.drew rfl (.const (.slice none 0 0)) (.tmp 29) rfl (by rfl) w.heap.size w.heap.size D S.length d S (by rfl) HR'.out.drew (by omega) (Nat.le_refl _) ?_; intro v1 w1 hown1 hg1; have hcx := hg1.cell hc (by simp); have hsz1 : w.heap.size ≤ w1.heap.size := hg1.size)
          | (refine step_copy (w.alloc (.cells #[.int .u32 (nth tr i)] 45)).drew rfl (.const (.slice none 0 0)) (.tmp 29) rfl (by rfl) w.heap.size w.heap.size D S.length d S (by rfl) (HR'.out.alloc (Nat.le_refl _) _).drew (by omega) (by simp) ?_; intro v1 w1 hown1 hg1; have hcx := hg1.cell (hcA _) (by simp); have hsz1 : w.heap.size ≤ w1.heap.size := Nat.le_trans (by simp) hg1.size)
          | (refine step_app_row (w1.alloc (.cells #[.int .u32 (nth tr i)] 45)) rfl (.tmp 30) (.tmp 35) rfl v1 S.length S (by rfl) w.heap.size w1.heap.size (nth tr i) (by rfl) (hown1.alloc _) (Blk.new w1 45 _) (by omega) (by simp; omega) ?_; intro v2 w2 hown2 hg2; have hb2 : Below w.heap.size w w2 := (((Below.refl _ w).drew.grown hg1 (Nat.le_refl _) (by simp)).alloc hsz1 _).grown hg2 (by simp; omega) (fun j hj => (hown1.lt j hj).1); have hc2 := (hb2.cell (p := ⟨b, o_ + i, none⟩) hbw).trans hc)
          | (refine step_app_row w1 rfl (.tmp 30) (.tmp 35) rfl v1 S.length S (by rfl) w.heap.size w.heap.size (nth tr i) (by rfl) hown1 ((Blk.new w 45 #[.int .u32 (nth tr i)]).drew.grown hg1 (by simp)) (by omega) hsz1 ?_; intro v2 w2 hown2 hg2; have hb2 : Below w.heap.size w w2 := (((Below.refl _ w).alloc (Nat.le_refl _) _).drew.grown hg1 (by simp) (by simp)).grown hg2 hsz1 (fun j hj => (hown1.lt j hj).1); have hc2 := (hb2.cell (p := ⟨b, o_ + i, none⟩) hbw).trans hc))
      all_goals
        clear hg1 hg2 hown1 hcx hsz1
        obtain ⟨A2, c2, rfl, hrd2⟩ := own_shape hown2
        clear hrd2
        have HO := Lib.hid hown2
        have HB := Lib.hid hb2
        have HV := Lib.hid (mxTo_all (t := tr.drop (i + 1)) HM.out hroom)
        clear hb2 hown2 hroom hc2
        go_wp2
        go_loopw [10, 11] (fun y x wr => ∃ j : Nat, j ≤ S.length ∧ x = .int .i64 j ∧ y = .int .i64 (mxTo s (tr.drop (i + 1)) S (nth tr i) j) ∧ Below w2.heap.size w2 wr) (fun _ x _ => S.length - (intOf x).toNat)
        case atStart => exact ⟨0, Nat.zero_le _, rfl, rfl, Below.refl _ _⟩
        case round =>
          obtain ⟨j, hj, rfl, rfl, hbr⟩ := hrel
          by_cases hlt : j < S.length
          · obtain ⟨b', o', rfl, hbw', hc'⟩ := (HR'.out.below (HB.out.trans (hbr.mono HB.out.size))).int_at hlt
            have hB3 := HB.out.trans (hbr.mono HB.out.size)
            have hj0 : (0 : Int) ≤ (j : Int) := Int.natCast_nonneg _
            have hj1 : (j : Int) < (S.length : Int) := by omega
            have hj2 : IntKind.i64.wrap ((j : Int) + 1) = (j : Int) + 1 := by rw [IntKind.wrap_i64]; omega
            have hbx : b' < wr.heap.size := by have := hB3.size; omega
            have HHR := Lib.hid (HR.out.below hB3)
            have HB3 := Lib.hid hB3
            have HJ := Lib.hid (mxTo_succ (s := s) (t := tr.drop (i + 1)) (r := nth tr i) hlt)
            have hOr := own_step HO.out hbr
            have HW := Lib.hid (without_any A2 (S.length + 1) c2 (nth S j) (S ++ [nth tr i]) wr (Reads.of_own hOr) (by omega))
            have hmem : nth S j ∈ S := nth_mem hlt
            have hwl : Hid ((wo (S ++ [nth tr i]) (nth S j)).length ≤ s) := by
              have h1 := wo_lt (S := S ++ [nth tr i]) (k := nth S j) (by simp [hmem])
              rw [List.length_append] at h1
              exact Lib.hid (by simp at h1; omega)
            clear hB3 hOr hmem
            go_wp2_with fail
            refine (HW.out).mono ?_
            rintro e w4 ⟨v4, rfl, hown4, hb4⟩
            obtain ⟨A4, c4, rfl, hrd4⟩ := own_shape hown4
            have HB4 := Lib.hid (HB3.out.trans (hb4.mono HB3.out.size))
            have HBR4 := Lib.hid (hbr.trans (hb4.mono hbr.size))
            have HC := Lib.hid (HI'.out (wo (S ++ [nth tr i]) (nth S j)) A4 _ c4 w4 hwl.out ((HR.out.below HB4.out).more HB4.out.size) hrd4)
            clear hown4 hrd4 hb4 hbr
            go_wp2_with fail
            refine (HC.out).mono ?_
            rintro e w5 ⟨rfl, hb5⟩
            have HBR5 := Lib.hid (HBR4.out.trans (hb5.mono HBR4.out.size))
            clear hb5
            go_wp2
            go_roundw
            case rel => exact ⟨j + 1, by omega, by go_num, max_int HJ.out, HBR5.out⟩
            case measure => simp [intOf]; omega
          · have hjl : j = S.length := by omega
            subst hjl
            have hB3 := Lib.hid (HB.out.trans (hbr.mono HB.out.size))
            have hnl : ¬ ((S.length : Int) < (S.length : Int)) := by omega
            clear hbr
            go_wp2
            go_ret
            exact ⟨ret_int (by rw [HD.out, HV.out]), hB3.out⟩

set_option maxHeartbeats 1000000 in
theorem rbest_end (s n c : Nat) (tr : List Int) (A : Option Addr) : BestAt s n c tr A n := by
  intro S D k d w hS h h'
  have HLN := Lib.hid h.int_len
  clear h h'
  go_enter Try.func23, Try.ntmps23
  go_wp2
  go_ret
  exact ⟨ret_int (by rw [List.drop_of_length_le (by rw [HLN.out]; exact Nat.le_refl _)]; rfl), Below.refl _ _⟩
theorem rbest_all (s n c : Nat) (tr : List Int) (A : Option Addr) (hs1 : 1 ≤ s) (hs2 : s ≤ 1024) (hn : n ≤ 4096) : ∀ m i : Nat, i + m = n → BestAt s n c tr A i := by
  intro m
  induction m with
  | zero => intro i hi; have : i = n := by omega
            subst this; exact rbest_end s i c tr A
  | succ m ih => intro i hi; exact rbest_step s n c tr A i hs1 hs2 hn (by omega) (ih (i + 1) (by omega))
/-- 'Best' of the reference. -/
theorem rbest_any (s n c : Nat) (tr : List Int) (A : Option Addr) (w : World) (hs1 : 1 ≤ s) (hs2 : s ≤ 1024) (hn : n ≤ 4096) (h : Reads w w.heap.size 1 A n (ints .u32 tr)) :
    Calls Try.prog 23 #[.slice A n c, .int .i64 s, .int .i64 0, .slice none 0 0] w fun e w' => e = .returned (.int .i64 (V s tr [])) ∧ Below w.heap.size w w' :=
  rbest_all s n c tr A hs1 hs2 hn n 0 (by omega) [] none 0 0 w (Nat.zero_le _) h Reads.none_
end Go.Proofs.Ythclmacnmbmepaa
