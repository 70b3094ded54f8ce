import Derived.Test.YthclmacnmbmepaaWo
namespace Go.Proofs.Ythclmacnmbmepaa
open Go.RowKit Bel Go.Maps Go.Shelf

def checkH (s : Nat) (tr : List Int) (ts : List Turn) : Int := if chk s tr ts [] = true then hits ts else 0
def checkE (s : Nat) (tr : List Int) (ts : List Turn) : Int := if chk s tr ts [] = true then 0 else 10

theorem tnth_mem {ts : List Turn} {j : Nat} (h : j < ts.length) : tnth ts j ∈ ts := by
  rw [tnth_eq h]; exact List.getElem_mem h

set_option maxHeartbeats 1000000 in
theorem checkP_err (A D : Option Addr) (n c m d : Nat) (s e : Int) (w : World) (he : allowedE n 4096 s = e) (h0 : e ≠ 0) :
    Calls Try.prog 19 #[.slice A n c, .int .i64 s, .slice D m d] w fun r w' => r = .returned (.tuple #[.int .i64 0, .int .i64 e]) ∧ w = w' := by
  have HA := Lib.hid (fun W => allowed_any A n c 4096 s W)
  rw [he] at HA
  have hb : (e != 0) = true := by simpa using h0
  clear h0 he
  go_enter Try.func19, Try.ntmps19
  go_wp2_with fail
  refine ((HA.out _).mono ?_)
  rintro r w' ⟨rfl, rfl⟩
  go_wp2
  go_ret2
  exact ⟨rfl, rfl⟩

set_option maxHeartbeats 1000000 in
theorem checkP_len (A D : Option Addr) (n c m d : Nat) (s : Int) (w : World) (he : allowedE n 4096 s = 0) (h0 : n ≠ m) :
    Calls Try.prog 19 #[.slice A n c, .int .i64 s, .slice D m d] w fun r w' => r = .returned (.tuple #[.int .i64 0, .int .i64 2]) ∧ w = w' := by
  have HA := Lib.hid (fun W => allowed_any A n c 4096 s W)
  rw [he] at HA
  have hb : ¬ (m : Int) = (n : Int) := by omega
  clear h0 he
  go_enter Try.func19, Try.ntmps19
  go_wp2_with fail
  refine ((HA.out _).mono ?_)
  rintro r w' ⟨rfl, rfl⟩
  go_wp2
  go_ret2
  exact ⟨rfl, rfl⟩

set_option maxRecDepth 100000 in
set_option maxHeartbeats 2000000 in
theorem checkP_any (A D : Option Addr) (n c d s : Nat) (tr : List Int) (ts : List Turn) (w : World) (h : Reads w w.heap.size 1 A n (ints .u32 tr)) (h' : Reads w w.heap.size 3 D n (tcells ts)) (hw : ∀ x ∈ tr, (Lit.int .u32 x).wf = true) (hwt : ∀ x ∈ ts, (Lit.int .u32 x.out).wf = true)
    (hn : n ≤ 4096) (hs1 : 1 ≤ s) (hs2 : s ≤ 1024) :
    Calls Try.prog 19 #[.slice A n c, .int .i64 s, .slice D n d] w fun e w' => e = .returned (.tuple #[.int .i64 (checkH s tr ts), .int .i64 (checkE s tr ts)]) ∧ Below w.heap.size w w' := by
  have HLN := Lib.hid h.int_len
  have HLM := Lib.hid h'.turn_len
  have HA := Lib.hid (fun W => allowed_any A n c 4096 s W)
  have ha : allowedE n 4096 s = 0 := by unfold allowedE; rw [if_neg (by omega), if_neg (by omega)]
  rw [ha] at HA
  clear ha
  have hmm := @run_makeMap Try.prog
  have HW := Lib.hid hw
  have HWT := Lib.hid hwt
  clear hw hwt
  go_enter Try.func19, Try.ntmps19
  go_wp2_with fail
  refine ((HA.out _).mono ?_)
  rintro r w' ⟨rfl, rfl⟩
  go_wp2
  go_loopw [10, 11, 26] (fun _ _ x wr => ∃ (k : Nat) (S : List Int), k ≤ n ∧ x = .int .i64 k ∧ Below w.heap.size w wr ∧ SetM wr w.heap.size k S ∧ S.length ≤ s ∧ chk s tr ts [] = chk s (tr.drop k) (ts.drop k) S) (fun _ _ x _ => n - (intOf x).toNat)
  case atStart => exact ⟨0, [], Nat.zero_le _, rfl, (Below.refl _ _).alloc (Nat.le_refl _) _, SetM.made w, Nat.zero_le _, rfl⟩
  case round =>
    obtain ⟨k, S, hk, rfl, hb, hm, hSl, he⟩ := hrel
    have HE := Lib.hid he
    clear he
    by_cases hlt : k < n
    · have hkt : Hid (k < tr.length) := by rw [HLN.out]; exact hlt
      have hks : Hid (k < ts.length) := by rw [HLM.out]; exact hlt
      obtain ⟨b, o, rfl, hbw, hc⟩ := (h.below hb).int_at hlt
      obtain ⟨b', o', rfl, hbw', h0, h1, h2⟩ := (h'.below hb).turn_at hlt
      have hk0 : (0 : Int) ≤ (k : Int) := Int.natCast_nonneg _
      have hk1 : (k : Int) < (n : Int) := by omega
      have HR := Lib.hid h
      have HR' := Lib.hid h'
      have HB := Lib.hid hb
      have hwk := HW.out _ (nth_mem hkt.out)
      have hwo := HWT.out _ (tnth_mem hks.out)
      have hbr : b < wr.heap.size := by have := hb.size; omega
      have hbr' : b' < wr.heap.size := by have := hb.size; omega
      clear h h' hb
      generalize hx : tnth ts k = x at h0 h1 h2 hwo
      obtain ⟨xh, xl, xo⟩ := x
      simp only at h0 h1 h2 hwo
      have HX := Lib.hid hx
      clear hx
      have hsm : ∀ q, SetM ((wr.alloc (.cells #[.bool xh, .bool xl, .int .u32 xo] 50)).drewN q) w.heap.size k S := fun q => (hm.alloc _).drewN q
      have hbl := Blk.new wr 50 #[.bool xh, .bool xl, .int .u32 xo]
      have hne : wr.heap.size ≠ w.heap.size := by have := hm.lt; omega
      cases hbad : bad S (nth tr k) xh xl xo with
      | true =>
        have HT := Lib.hid (fun q => turn_bad w.heap.size k S (nth tr k) xo xh xl _ (hsm q) hwk hwo hbad)
        have HBAD := Lib.hid hbad
        clear hbad
        clear hsm hwk hwo hm
        go_wp2_with fail
        first
          | (go_region_with (go_at_call 41; refine (HT.out _).mono ?_; rintro e w2 ⟨rfl, hg2⟩))
          | fail
        all_goals
          have hb2 := (HB.out.alloc HB.out.size (.cells #[.bool xh, .bool xl, .int .u32 xo] 50)).drew.grown hg2 (by have := HB.out.size; simp; omega) (by simp)
          clear hg2
          go_wp2
          go_ret2
          exact ⟨by simp [checkH, checkE, HE.out, chk_bad hkt.out hks.out HX.out HBAD.out], hb2⟩
      | false =>
        have HT := Lib.hid (fun q => turn_good w.heap.size k S (nth tr k) xo xh xl _ (hsm q) hwk hwo (by unfold maxLen; omega) hbad)
        have HBAD := Lib.hid hbad
        clear hbad
        clear hsm hwk hwo hm
        have HBL := Lib.hid hbl
        clear hbl
        generalize hS' : wo (if xl = true then wo S xo else S) (nth tr k) ++ [nth tr k] = S' at HT
        have HS' := Lib.hid hS'
        clear hS'
        by_cases hq : s < S'.length
        · have hq' : (s : Int) < (S'.length : Int) := by omega
          go_wp2_with fail
          go_region_with (go_at_call 41; refine (HT.out _).mono ?_; rintro e w2 ⟨rfl, hs2, hg2⟩; have hlen := hs2.len 3; have HS2 := Lib.hid hs2; clear hs2)
          all_goals
            have hb2 := (HB.out.alloc HB.out.size (.cells #[.bool xh, .bool xl, .int .u32 xo] 50)).drew.grown hg2 (by have := HB.out.size; simp; omega) (by intro j hj; cases hj; exact Nat.le_refl _)
            clear hg2
            go_wp2
            go_ret2
            exact ⟨by simp [checkH, checkE, HE.out, chk_full hkt.out hks.out HX.out (by rw [HS'.out]; exact hq)], hb2⟩
        · have hq' : (S'.length : Int) ≤ (s : Int) := by omega
          go_wp2_with fail
          go_region_with (go_at_call 41; refine (HT.out _).mono ?_; rintro e w2 ⟨rfl, hs2, hg2⟩; have hlen := hs2.len 3; have HS2 := Lib.hid hs2; clear hs2)
          all_goals
            have hb2 := (HB.out.alloc HB.out.size (.cells #[.bool xh, .bool xl, .int .u32 xo] 50)).drew.grown hg2 (by have := HB.out.size; simp; omega) (by intro j hj; cases hj; exact Nat.le_refl _)
            have HB2 := Lib.hid hb2
            clear hg2 hb2
            go_wp2
            go_roundw
            case rel => exact ⟨k + 1, S', by omega, by go_num, HB2.out, HS2.out, by omega, by rw [HE.out, chk_on hkt.out hks.out HX.out HBAD.out (by rw [HS'.out]; exact hq), HS'.out]⟩
            case measure => simp [intOf]; omega
    · have hkn : k = n := by omega
      subst hkn
      have hE : chk s tr ts [] = true := by
        rw [HE.out, List.drop_of_length_le (by rw [HLN.out]; exact Nat.le_refl _)]
        simp [chk]
      have HE2 := Lib.hid hE
      have hnl : ¬ ((k : Int) < (k : Int)) := by omega
      have HCN := Lib.hid (count_any D k d ts wr ((h'.below hb).more hb.size) (by omega))
      have HB := Lib.hid hb
      clear hE hb h h' hm hlt
      go_wp2_with fail
      refine (HCN.out).mono ?_
      rintro e w2 ⟨rfl, hb2⟩
      have hb3 := HB.out.trans (hb2.mono HB.out.size)
      clear hb2
      go_wp2
      go_ret2
      exact ⟨by simp [checkH, checkE, HE2.out], hb3⟩
end Go.Proofs.Ythclmacnmbmepaa
