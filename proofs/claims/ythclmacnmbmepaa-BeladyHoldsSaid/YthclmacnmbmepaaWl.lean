import Derived.Test.YthclmacnmbmepaaWk
import Derived.ChangeAlike
namespace Go.Proofs.Ythclmacnmbmepaa
open Go.RowKit Bel Go.Maps Go.Shelf

theorem tdrop_at {ts : List Turn} {k : Nat} (hk : k < ts.length) : ts.drop k = tnth ts k :: ts.drop (k + 1) := by
  rw [List.drop_eq_getElem_cons hk, tnth_eq hk]

theorem chk_cons (s : Nat) (r : Int) (t : List Int) (xh xl : Bool) (xo : Int) (xs : List Turn) (S : List Int) :
    chk s (r :: t) (⟨xh, xl, xo⟩ :: xs) S = if xh != decide (r ∈ S) || xh && xl || !xl && xo != 0 then false else if xl && !decide (xo ∈ S) then false else
      if (wo (if xl then wo S xo else S) r ++ [r]).length > s then false else chk s t xs (wo (if xl then wo S xo else S) r ++ [r]) := rfl
section
variable {s k : Nat} {tr : List Int} {ts : List Turn} {S : List Int} {xh xl : Bool} {xo : Int}
theorem chk_one (hk : k < tr.length) (hk' : k < ts.length) (hx : tnth ts k = ⟨xh, xl, xo⟩) (h : (xh != decide (nth tr k ∈ S) || xh && xl || !xl && xo != 0) = true) : chk s (tr.drop k) (ts.drop k) S = false := by
  rw [drop_at hk, tdrop_at hk', hx, chk_cons, if_pos h]
theorem chk_two (hk : k < tr.length) (hk' : k < ts.length) (hx : tnth ts k = ⟨xh, xl, xo⟩) (h : (xl && !decide (xo ∈ S)) = true) : chk s (tr.drop k) (ts.drop k) S = false := by
  rw [drop_at hk, tdrop_at hk', hx, chk_cons, if_pos h]; split <;> rfl
theorem chk_three (hk : k < tr.length) (hk' : k < ts.length) (hx : tnth ts k = ⟨xh, xl, xo⟩) (h : (wo (if xl then wo S xo else S) (nth tr k) ++ [nth tr k]).length > s) : chk s (tr.drop k) (ts.drop k) S = false := by
  rw [drop_at hk, tdrop_at hk', hx, chk_cons, if_pos h]; split <;> first | rfl | (split <;> rfl)
theorem chk_next (hk : k < tr.length) (hk' : k < ts.length) (hx : tnth ts k = ⟨xh, xl, xo⟩) (h1 : (xh != decide (nth tr k ∈ S) || xh && xl || !xl && xo != 0) = false) (h2 : (xl && !decide (xo ∈ S)) = false)
    (h3 : ¬ (wo (if xl then wo S xo else S) (nth tr k) ++ [nth tr k]).length > s) : chk s (tr.drop k) (ts.drop k) S = chk s (tr.drop (k + 1)) (ts.drop (k + 1)) (wo (if xl then wo S xo else S) (nth tr k) ++ [nth tr k]) := by
  rw [drop_at hk, tdrop_at hk', hx, chk_cons, if_neg (by rw [h1]; simp), if_neg (by rw [h2]; simp), if_neg h3]
end

set_option maxRecDepth 100000 in
set_option maxHeartbeats 2000000 in
/-- 'Check' of the reference. -/
theorem rcheck_any (A D : Option Addr) (n c d s : Nat) (tr : List Int) (ts : List Turn) (w : World) (h : Reads w w.heap.size 1 A n (ints .u32 tr)) (h' : Reads w w.heap.size 3 D n (tcells ts)) (hn : n ≤ 4096) (hs2 : s ≤ 1024) :
    Calls Try.prog 20 #[.slice A n c, .int .i64 s, .slice D n d] w fun e w' => e = .returned (.bool (chk s tr ts [])) ∧ Below w.heap.size w w' := by
  have HLN := Lib.hid h.int_len
  have HLM := Lib.hid h'.turn_len
  go_enter Try.func20, Try.ntmps20
  go_wp2
  go_loopw [7, 8] (fun vK x wr => ∃ (k : Nat) (S : List Int), k ≤ n ∧ x = .int .i64 k ∧ Below w.heap.size w wr ∧ wr.ownsRow w.heap.size 45 1 vK S.length (ints .u32 S) ∧ S.length ≤ s ∧ chk s tr ts [] = chk s (tr.drop k) (ts.drop k) S) (fun _ x _ => n - (intOf x).toNat)
  case atStart => exact ⟨0, [], Nat.zero_le _, rfl, Below.refl _ _, World.ownsRow_nil _ _ _ _, Nat.zero_le _, rfl⟩
  case round =>
    obtain ⟨k, S, hk, rfl, hb, hown, hSl, he⟩ := hrel
    have HE := Lib.hid he
    clear he
    by_cases hlt : k < n
    · have hkt : Hid (k < tr.length) := by rw [HLN.out]; exact hlt
      have hks : Hid (k < ts.length) := by rw [HLM.out]; exact hlt
      obtain ⟨AK, cK, rfl, hrK⟩ := own_shape hown
      obtain ⟨b, o, rfl, hbw, hc⟩ := (h.below hb).int_at hlt
      obtain ⟨b', o', rfl, hbw', h0, h1, h2⟩ := (h'.below hb).turn_at hlt
      have hk0 : (0 : Int) ≤ (k : Int) := Int.natCast_nonneg _
      have hk1 : (k : Int) < (n : Int) := by omega
      have HR := Lib.hid h
      have HR' := Lib.hid h'
      have HB := Lib.hid hb
      have HO := Lib.hid hown
      have HRK := Lib.hid hrK
      have hbr : b < wr.heap.size := by have := hb.size; omega
      have hbr' : b' < wr.heap.size := by have := hb.size; omega
      clear h h' hb hown hrK
      generalize hx : tnth ts k = x at h0 h1 h2
      obtain ⟨xh, xl, xo⟩ := x
      simp only at h0 h1 h2
      have HX := Lib.hid hx
      clear hx
      have hrd : ∀ q, Reads ((wr.alloc (.cells #[.bool xh, .bool xl, .int .u32 xo] 50)).drewN q) wr.heap.size 1 AK S.length (ints .u32 S) := fun q => (HRK.out.alloc (Nat.le_refl _) _)
      have HRD := Lib.hid hrd
      clear hrd
      cases xh with
      | true =>
        by_cases hm : nth tr k ∈ S
        · cases xl with
          | true =>
            have hd : decide (nth tr k ∈ S) = true := by simpa using hm
            have HAS := Lib.hid (fun q => has_any AK S.length cK (nth tr k) S _ _ (HRD.out q) (by omega))
            rw [hd] at HAS
            have HDHAS := Lib.hid hd
            clear hd
            clear hm
            go_wp2
            go_region
            go_wp2
            go_quiet ((go_at_call 39; exact quiet_add_left (HAS.out _)))
            go_wp2
            go_ret
            exact ⟨ret_bool (by rw [HE.out]; exact (chk_one hkt.out hks.out HX.out (by simp [HDHAS.out])).symm), below_drewN (HB.out.alloc HB.out.size _).drew _⟩
          | false =>
            by_cases hxo : xo = 0
            · have hxb : (xo != 0) = false := by simpa using hxo
              have HXO := Lib.hid hxo
              clear hxo
              have hd : decide (nth tr k ∈ S) = true := by simpa using hm
              have HAS := Lib.hid (fun q => has_any AK S.length cK (nth tr k) S _ _ (HRD.out q) (by omega))
              rw [hd] at HAS
              have HDHAS := Lib.hid hd
              clear hd
              clear hm
              go_wp2
              go_region
              go_wp2
              go_quiet ((go_at_call 39; exact quiet_add_left (HAS.out _)))
              have hb6 : Below wr.heap.size wr ((wr.alloc (.cells #[.bool true, .bool false, .int .u32 xo] 50)).drewN (1 + nq)) := below_drewN ((Below.refl _ wr).alloc (Nat.le_refl _) _) _
              have hbx : Blk ((wr.alloc (.cells #[.bool true, .bool false, .int .u32 xo] 50)).drewN (1 + nq)) wr.heap.size 50 #[.bool true, .bool false, .int .u32 xo] := Blk.new wr 50 _
              have hO6 := own_step HO.out hb6
              have HB6 := Lib.hid (HB.out.trans (hb6.mono HB.out.size))
              have hs6 : w.heap.size ≤ ((wr.alloc (.cells #[.bool true, .bool false, .int .u32 xo] 50)).drewN (1 + nq)).heap.size := HB6.out.size
              have HW2 := Lib.hid (without_any AK S.length cK (nth tr k) S _ (Reads.of_own hO6) (by omega))
              have hl7 : (S).length ≤ S.length := Nat.le_refl _
              have hs7 := hs6
              have x1 := hbx.cell 1
              simp only [List.getElem?_toArray, List.getElem?_cons_zero, List.getElem?_cons_succ] at x1
              have HS6 := Lib.hid hs6
              clear hb6 hbx hO6 hs6
              go_wp2_with fail
              refine ((HW2.out).mono ?_)
              rintro e w8 ⟨v8, rfl, hown8, hb8⟩
              have hO8 := own_base hown8 (B := w.heap.size) HS6.out
              have HB8 := Lib.hid (HB6.out.trans (hb8.mono HS6.out))
              have hl8 : (wo (S) (nth tr k)).length ≤ (S).length := by unfold wo; exact List.length_filter_le _ _
              have hs8 : w.heap.size ≤ w8.heap.size := HB8.out.size
              clear hown8 hb8 HW2 hs7 x1
              by_cases hq : s < (wo (S) (nth tr k)).length + 1
              · have hq' : (s : Int) < ((wo (S) (nth tr k)).length : Int) + 1 := by omega
                go_wp2_with (first
                  | (at_builtin; go_must (refine wpList_app1 w8 rfl (.tmp 66) (.tmp 68) 22 rfl w.heap.size 45 1 4 _ info45 Try.underlying22 rfl (by omega) v8 _ _ [.int .u32 (nth tr k)] rfl hO8 rfl (by simp [Value.oneCell']) rfl (by unfold maxLen; omega) (by omega) hs8 ?_); intro v9 w9 hown9 hg9; obtain ⟨A9, c9, rfl, hr9⟩ := own_shape hown9; clear hr9))
                go_ret
                exact ⟨ret_bool (by rw [HE.out]; exact (chk_three hkt.out hks.out HX.out (by simp only [Bool.false_eq_true, if_false]; rw [List.length_append]; exact hq)).symm), HB8.out.grown hg9 HB8.out.size (fun j hj => (hO8.lt j hj).1)⟩
              · have hq' : ((wo (S) (nth tr k)).length : Int) + 1 ≤ (s : Int) := by omega
                go_wp2_with (first
                  | (at_builtin; go_must (refine wpList_app1 w8 rfl (.tmp 66) (.tmp 68) 22 rfl w.heap.size 45 1 4 _ info45 Try.underlying22 rfl (by omega) v8 _ _ [.int .u32 (nth tr k)] rfl hO8 rfl (by simp [Value.oneCell']) rfl (by unfold maxLen; omega) (by omega) hs8 ?_); intro v9 w9 hown9 hg9; obtain ⟨A9, c9, rfl, hr9⟩ := own_shape hown9; clear hr9))
                go_roundw
                case rel =>
                  refine ⟨k + 1, wo (S) (nth tr k) ++ [nth tr k], by omega, by go_num, HB8.out.grown hg9 HB8.out.size (fun j hj => (hO8.lt j hj).1), ?_, by rw [List.length_append]; simp; omega, ?_⟩
                  · rw [ints_snoc, List.length_append]; exact hown9
                  · rw [HE.out]
                    have := chk_next (s := s) hkt.out hks.out HX.out (by rw [HDHAS.out]; simp [HXO.out]) (by simp) (by simp only [Bool.false_eq_true, if_false]; rw [List.length_append]; simp; omega)
                    rw [this]; rfl
                case measure => simp [intOf]; omega
            · have hxb : (xo != 0) = true := by simpa using hxo
              have HXO := Lib.hid hxo
              clear hxo
              have hd : decide (nth tr k ∈ S) = true := by simpa using hm
              have HAS := Lib.hid (fun q => has_any AK S.length cK (nth tr k) S _ _ (HRD.out q) (by omega))
              rw [hd] at HAS
              have HDHAS := Lib.hid hd
              clear hd
              clear hm
              go_wp2
              go_region
              go_wp2
              go_quiet ((go_at_call 39; exact quiet_add_left (HAS.out _)))
              go_wp2
              go_ret
              exact ⟨ret_bool (by rw [HE.out]; exact (chk_one hkt.out hks.out HX.out (by rw [HDHAS.out]; simp [HXO.out])).symm), below_drewN (HB.out.alloc HB.out.size _).drew _⟩
        · have hd : decide (nth tr k ∈ S) = false := by simpa using hm
          have HAS := Lib.hid (fun q => has_any AK S.length cK (nth tr k) S _ _ (HRD.out q) (by omega))
          rw [hd] at HAS
          have HDHAS := Lib.hid hd
          clear hm hd
          go_wp2
          go_region
          go_wp2
          go_quiet ((go_at_call 39; exact quiet_add_left (HAS.out _)))
          go_wp2
          go_ret
          exact ⟨ret_bool (by rw [HE.out]; exact (chk_one hkt.out hks.out HX.out (by rw [HDHAS.out]; rfl)).symm), below_drewN (HB.out.alloc HB.out.size _).drew _⟩
      | false =>
        by_cases hm : nth tr k ∈ S
        · have hd : decide (nth tr k ∈ S) = true := by simpa using hm
          have HAS := Lib.hid (fun q => has_any AK S.length cK (nth tr k) S _ _ (HRD.out q) (by omega))
          rw [hd] at HAS
          have HDHAS := Lib.hid hd
          clear hm hd
          go_wp2
          go_region
          go_wp2
          go_quiet ((go_at_call 39; exact quiet_add_left (HAS.out _)))
          go_wp2
          go_ret
          exact ⟨ret_bool (by rw [HE.out]; exact (chk_one hkt.out hks.out HX.out (by rw [HDHAS.out]; rfl)).symm), below_drewN (HB.out.alloc HB.out.size _).drew _⟩
        · cases xl with
          | true =>
            by_cases hmo : xo ∈ S
            · have hd2 : decide (xo ∈ S) = true := by simpa using hmo
              have HAS2 := Lib.hid (fun q => has_any AK S.length cK xo S _ _ (HRD.out (1 + q)) (by omega))
              rw [hd2] at HAS2
              have HDHAS2 := Lib.hid hd2
              clear hd2 hmo
              have hd : decide (nth tr k ∈ S) = false := by simpa using hm
              have HAS := Lib.hid (fun q => has_any AK S.length cK (nth tr k) S _ _ (HRD.out q) (by omega))
              rw [hd] at HAS
              have HDHAS := Lib.hid hd
              clear hd
              clear hm
              go_wp2
              go_region
              go_wp2
              go_quiet ((go_at_call 39; exact quiet_add_left (HAS.out _)))
              go_wp2_with fail
              refine ((HAS2.out _).mono ?_)
              rintro e w6 ⟨rfl, rfl⟩
              have hb6 : Below wr.heap.size wr ((wr.alloc (.cells #[.bool false, .bool true, .int .u32 xo] 50)).drewN (1 + nq)) := below_drewN ((Below.refl _ wr).alloc (Nat.le_refl _) _) _
              have hbx : Blk ((wr.alloc (.cells #[.bool false, .bool true, .int .u32 xo] 50)).drewN (1 + nq)) wr.heap.size 50 #[.bool false, .bool true, .int .u32 xo] := Blk.new wr 50 _
              have hO6 := own_step HO.out hb6
              have HB6 := Lib.hid (HB.out.trans (hb6.mono HB.out.size))
              have hs6 : w.heap.size ≤ ((wr.alloc (.cells #[.bool false, .bool true, .int .u32 xo] 50)).drewN (1 + nq)).heap.size := HB6.out.size
              have HW1 := Lib.hid (without_any AK S.length cK xo S _ (Reads.of_own hO6) (by omega))
              have HBX := Lib.hid hbx
              have HO6 := Lib.hid hO6
              have HS6 := Lib.hid hs6
              clear hb6 hbx hO6 hs6
              go_wp2_with fail
              refine ((HW1.out).mono ?_)
              rintro e w7 ⟨v7, rfl, hown7, hb7⟩
              have hO7 := own_base hown7 (B := w.heap.size) HS6.out
              have HB7 := Lib.hid (HB6.out.trans (hb7.mono HS6.out))
              have HBX7 := Lib.hid (HBX.out.below hb7 HBX.out.lt)
              obtain ⟨A7, c7, rfl, hr7⟩ := own_shape hO7
              have hl7 : (wo S xo).length ≤ S.length := by unfold wo; exact List.length_filter_le _ _
              have hs7 : w.heap.size ≤ w7.heap.size := HB7.out.size
              have HW2 := Lib.hid (without_any A7 (wo S xo).length c7 (nth tr k) (wo S xo) w7 hr7 (by omega))
              clear hown7 hb7 hr7 HW1
              go_wp2_with fail
              refine ((HW2.out).mono ?_)
              rintro e w8 ⟨v8, rfl, hown8, hb8⟩
              have hO8 := own_base hown8 (B := w.heap.size) hs7
              have HB8 := Lib.hid (HB7.out.trans (hb8.mono hs7))
              have hl8 : (wo (wo S xo) (nth tr k)).length ≤ (wo S xo).length := by unfold wo; exact List.length_filter_le _ _
              have hs8 : w.heap.size ≤ w8.heap.size := HB8.out.size
              clear hown8 hb8 HW2 hO7
              by_cases hq : s < (wo (wo S xo) (nth tr k)).length + 1
              · have hq' : (s : Int) < ((wo (wo S xo) (nth tr k)).length : Int) + 1 := by omega
                go_wp2_with (first
                  | (at_builtin; go_must (refine wpList_app1 w8 rfl (.tmp 66) (.tmp 68) 22 rfl w.heap.size 45 1 4 _ info45 Try.underlying22 rfl (by omega) v8 _ _ [.int .u32 (nth tr k)] rfl hO8 rfl (by simp [Value.oneCell']) rfl (by unfold maxLen; omega) (by omega) hs8 ?_); intro v9 w9 hown9 hg9; obtain ⟨A9, c9, rfl, hr9⟩ := own_shape hown9; clear hr9))
                go_ret
                exact ⟨ret_bool (by rw [HE.out]; exact (chk_three hkt.out hks.out HX.out (by simp only [if_true]; rw [List.length_append]; exact hq)).symm), HB8.out.grown hg9 HB8.out.size (fun j hj => (hO8.lt j hj).1)⟩
              · have hq' : ((wo (wo S xo) (nth tr k)).length : Int) + 1 ≤ (s : Int) := by omega
                go_wp2_with (first
                  | (at_builtin; go_must (refine wpList_app1 w8 rfl (.tmp 66) (.tmp 68) 22 rfl w.heap.size 45 1 4 _ info45 Try.underlying22 rfl (by omega) v8 _ _ [.int .u32 (nth tr k)] rfl hO8 rfl (by simp [Value.oneCell']) rfl (by unfold maxLen; omega) (by omega) hs8 ?_); intro v9 w9 hown9 hg9; obtain ⟨A9, c9, rfl, hr9⟩ := own_shape hown9; clear hr9))
                go_roundw
                case rel =>
                  refine ⟨k + 1, wo (wo S xo) (nth tr k) ++ [nth tr k], by omega, by go_num, HB8.out.grown hg9 HB8.out.size (fun j hj => (hO8.lt j hj).1), ?_, by rw [List.length_append]; simp; omega, ?_⟩
                  · rw [ints_snoc, List.length_append]; exact hown9
                  · rw [HE.out]
                    have := chk_next (s := s) hkt.out hks.out HX.out (by rw [HDHAS.out]; simp) (by rw [HDHAS2.out]; rfl) (by simp only [if_true]; rw [List.length_append]; simp; omega)
                    rw [this]; rfl
                case measure => simp [intOf]; omega
            · have hd2 : decide (xo ∈ S) = false := by simpa using hmo
              have HAS2 := Lib.hid (fun q => has_any AK S.length cK xo S _ _ (HRD.out (1 + q)) (by omega))
              rw [hd2] at HAS2
              have HDHAS2 := Lib.hid hd2
              clear hd2 hmo
              have hd : decide (nth tr k ∈ S) = false := by simpa using hm
              have HAS := Lib.hid (fun q => has_any AK S.length cK (nth tr k) S _ _ (HRD.out q) (by omega))
              rw [hd] at HAS
              have HDHAS := Lib.hid hd
              clear hd
              clear hm
              go_wp2
              go_region
              go_wp2
              go_quiet ((go_at_call 39; exact quiet_add_left (HAS.out _)))
              go_wp2_with fail
              refine ((HAS2.out _).mono ?_)
              rintro e w6 ⟨rfl, rfl⟩
              go_wp2
              go_ret
              exact ⟨ret_bool (by rw [HE.out]; exact (chk_two hkt.out hks.out HX.out (by rw [HDHAS2.out]; rfl)).symm), below_drewN (HB.out.alloc HB.out.size _) _⟩
          | false =>
            by_cases hxo : xo = 0
            · have hxb : (xo != 0) = false := by simpa using hxo
              have HXO := Lib.hid hxo
              clear hxo
              have hd : decide (nth tr k ∈ S) = false := by simpa using hm
              have HAS := Lib.hid (fun q => has_any AK S.length cK (nth tr k) S _ _ (HRD.out q) (by omega))
              rw [hd] at HAS
              have HDHAS := Lib.hid hd
              clear hd
              clear hm
              go_wp2
              go_region
              go_wp2
              go_quiet ((go_at_call 39; exact quiet_add_left (HAS.out _)))
              have hb6 : Below wr.heap.size wr ((wr.alloc (.cells #[.bool false, .bool false, .int .u32 xo] 50)).drewN (1 + nq)) := below_drewN ((Below.refl _ wr).alloc (Nat.le_refl _) _) _
              have hbx : Blk ((wr.alloc (.cells #[.bool false, .bool false, .int .u32 xo] 50)).drewN (1 + nq)) wr.heap.size 50 #[.bool false, .bool false, .int .u32 xo] := Blk.new wr 50 _
              have hO6 := own_step HO.out hb6
              have HB6 := Lib.hid (HB.out.trans (hb6.mono HB.out.size))
              have hs6 : w.heap.size ≤ ((wr.alloc (.cells #[.bool false, .bool false, .int .u32 xo] 50)).drewN (1 + nq)).heap.size := HB6.out.size
              have HW2 := Lib.hid (without_any AK S.length cK (nth tr k) S _ (Reads.of_own hO6) (by omega))
              have hl7 : (S).length ≤ S.length := Nat.le_refl _
              have hs7 := hs6
              have x1 := hbx.cell 1
              simp only [List.getElem?_toArray, List.getElem?_cons_zero, List.getElem?_cons_succ] at x1
              have HS6 := Lib.hid hs6
              clear hb6 hbx hO6 hs6
              go_wp2_with fail
              refine ((HW2.out).mono ?_)
              rintro e w8 ⟨v8, rfl, hown8, hb8⟩
              have hO8 := own_base hown8 (B := w.heap.size) HS6.out
              have HB8 := Lib.hid (HB6.out.trans (hb8.mono HS6.out))
              have hl8 : (wo (S) (nth tr k)).length ≤ (S).length := by unfold wo; exact List.length_filter_le _ _
              have hs8 : w.heap.size ≤ w8.heap.size := HB8.out.size
              clear hown8 hb8 HW2 hs7 x1
              by_cases hq : s < (wo (S) (nth tr k)).length + 1
              · have hq' : (s : Int) < ((wo (S) (nth tr k)).length : Int) + 1 := by omega
                go_wp2_with (first
                  | (at_builtin; go_must (refine wpList_app1 w8 rfl (.tmp 66) (.tmp 68) 22 rfl w.heap.size 45 1 4 _ info45 Try.underlying22 rfl (by omega) v8 _ _ [.int .u32 (nth tr k)] rfl hO8 rfl (by simp [Value.oneCell']) rfl (by unfold maxLen; omega) (by omega) hs8 ?_); intro v9 w9 hown9 hg9; obtain ⟨A9, c9, rfl, hr9⟩ := own_shape hown9; clear hr9))
                go_ret
                exact ⟨ret_bool (by rw [HE.out]; exact (chk_three hkt.out hks.out HX.out (by simp only [Bool.false_eq_true, if_false]; rw [List.length_append]; exact hq)).symm), HB8.out.grown hg9 HB8.out.size (fun j hj => (hO8.lt j hj).1)⟩
              · have hq' : ((wo (S) (nth tr k)).length : Int) + 1 ≤ (s : Int) := by omega
                go_wp2_with (first
                  | (at_builtin; go_must (refine wpList_app1 w8 rfl (.tmp 66) (.tmp 68) 22 rfl w.heap.size 45 1 4 _ info45 Try.underlying22 rfl (by omega) v8 _ _ [.int .u32 (nth tr k)] rfl hO8 rfl (by simp [Value.oneCell']) rfl (by unfold maxLen; omega) (by omega) hs8 ?_); intro v9 w9 hown9 hg9; obtain ⟨A9, c9, rfl, hr9⟩ := own_shape hown9; clear hr9))
                go_roundw
                case rel =>
                  refine ⟨k + 1, wo (S) (nth tr k) ++ [nth tr k], by omega, by go_num, HB8.out.grown hg9 HB8.out.size (fun j hj => (hO8.lt j hj).1), ?_, by rw [List.length_append]; simp; omega, ?_⟩
                  · rw [ints_snoc, List.length_append]; exact hown9
                  · rw [HE.out]
                    have := chk_next (s := s) hkt.out hks.out HX.out (by rw [HDHAS.out]; simp [HXO.out]) (by simp) (by simp only [Bool.false_eq_true, if_false]; rw [List.length_append]; simp; omega)
                    rw [this]; rfl
                case measure => simp [intOf]; omega
            · have hxb : (xo != 0) = true := by simpa using hxo
              have HXO := Lib.hid hxo
              clear hxo
              have hd : decide (nth tr k ∈ S) = false := by simpa using hm
              have HAS := Lib.hid (fun q => has_any AK S.length cK (nth tr k) S _ _ (HRD.out q) (by omega))
              rw [hd] at HAS
              have HDHAS := Lib.hid hd
              clear hd
              clear hm
              go_wp2
              go_region
              go_wp2
              go_quiet ((go_at_call 39; exact quiet_add_left (HAS.out _)))
              go_wp2
              go_ret
              exact ⟨ret_bool (by rw [HE.out]; exact (chk_one hkt.out hks.out HX.out (by rw [HDHAS.out]; simp [HXO.out])).symm), below_drewN (HB.out.alloc HB.out.size _).drew _⟩
    · have hnil : tr.drop k = [] := List.drop_eq_nil_of_le (by rw [HLN.out]; omega)
      have HNIL := Lib.hid hnil
      clear hnil
      go_wp2
      go_ret
      exact ⟨ret_bool (by rw [HE.out, HNIL.out]; rfl), hb⟩
end Go.Proofs.Ythclmacnmbmepaa
