/- BeladyHolds: for every trace, size and numbers the law answers true, and what came in reads as before. No condition. -/
import Derived.Test.YthclmacnmbmepaaLd
namespace Go.Proofs.Ythclmacnmbmepaa
open Go.ChangeShapes Go.WideShapes Go.ChangeAt Go.RowKit Bel

set_option maxRecDepth 100000 in
set_option maxHeartbeats 2000000 in
theorem holds_out (A D : Option Addr) (n c m d : Nat) (s : Int) (w : World) (hn : n ≤ maxLen) (hm : m ≤ maxLen) (h : 100 < n ∨ s < 1 ∨ 20 < s ∨ 100 < m) :
    Calls Try.prog 8 #[.slice A n c, .int .i64 s, .slice D m d] w fun e w' => e = .returned (.bool true) ∧ Below w.heap.size w w' := by
  unfold maxLen at hn hm
  by_cases c0 : (100 : Int) < (n : Int)
  · clear h
    go_enter Try.func8, Try.ntmps8
    go_wp2_with fail
    refine (known_any _).mono ?_
    rintro e w1 ⟨rfl, hb1⟩
    have HB1 := Lib.hid hb1
    clear hb1
    go_wp2
    go_ret
    exact ⟨rfl, HB1.out⟩
  · skip
    by_cases c1 : s < 1
    · clear h
      go_enter Try.func8, Try.ntmps8
      go_wp2_with fail
      refine (known_any _).mono ?_
      rintro e w1 ⟨rfl, hb1⟩
      have HB1 := Lib.hid hb1
      clear hb1
      go_wp2
      go_ret
      exact ⟨rfl, HB1.out⟩
    · skip
      by_cases c2 : 20 < s
      · clear h
        go_enter Try.func8, Try.ntmps8
        go_wp2_with fail
        refine (known_any _).mono ?_
        rintro e w1 ⟨rfl, hb1⟩
        have HB1 := Lib.hid hb1
        clear hb1
        go_wp2
        go_ret
        exact ⟨rfl, HB1.out⟩
      · skip
        by_cases c3 : (100 : Int) < (m : Int)
        · clear h
          go_enter Try.func8, Try.ntmps8
          go_wp2_with fail
          refine (known_any _).mono ?_
          rintro e w1 ⟨rfl, hb1⟩
          have HB1 := Lib.hid hb1
          clear hb1
          go_wp2
          go_ret
          exact ⟨rfl, HB1.out⟩
        · skip
          omega

set_option maxRecDepth 100000 in
set_option maxHeartbeats 4000000 in
theorem holds_in (A D : Option Addr) (n c m d s : Nat) (tr zs : List Int) (w : World) (h : Reads w w.heap.size 1 A n (ints .u32 tr)) (hw : ∀ x ∈ tr, (Lit.int .u32 x).wf = true)
    (h' : Reads w w.heap.size 1 D m (ints .u8 zs)) (hw' : ∀ x ∈ zs, (Lit.int .u8 x).wf = true) (hn : n ≤ 100) (h1 : 1 ≤ s) (h2 : s ≤ 20) (hm : m ≤ 100) :
    Calls Try.prog 8 #[.slice A n c, .int .i64 s, .slice D m d] w fun e w' => e = .returned (.bool true) ∧ Below w.heap.size w w' := by
  have c0 : ¬ (100 : Int) < (n : Int) := by omega
  have c1 : ¬ (s : Int) < 1 := by omega
  have c2 : ¬ (20 : Int) < (s : Int) := by omega
  have c3 : ¬ (100 : Int) < (m : Int) := by omega
  have hs0 : (0 : Int) ≤ (s : Int) := by omega
  have hs3 : (s : Int) ≤ 20 := by omega
  have hlen := h.int_len
  have HH := Lib.hid h
  have HW' := Lib.hid hw
  have HZ := Lib.hid h'
  have HZ' := Lib.hid hw'
  obtain ⟨a, ha⟩ : ∃ a : Nat, hits (turnsL s tr []) = a := ⟨_, rfl⟩
  obtain ⟨b, hb⟩ : ∃ b : Nat, hits (turnsL (s + 1) tr []) = b := ⟨_, rfl⟩
  obtain ⟨q, hq⟩ : ∃ q : Nat, diffTo tr n = q := ⟨_, rfl⟩
  have hv : V s tr [] = a := by rw [← ha]; exact (hits_turnsL h1 tr [] List.nodup_nil (Nat.zero_le _)).symm
  have hab : a ≤ b := by
    rw [← ha, ← hb, hits_turnsL h1 tr [] List.nodup_nil (Nat.zero_le _), hits_turnsL (by omega) tr [] List.nodup_nil (Nat.zero_le _)]
    exact V_size tr [] List.nodup_nil (Nat.zero_le _)
  have hqn : q ≤ n := by rw [← hq]; exact diffTo_le tr n
  have haq : q ≤ s → a = n - q := fun hqs => by
    have := hits_all (s := s) tr [] (by rw [← diff_D hlen, hq]; simpa using hqs)
    rw [← diff_D hlen, hq, ha] at this
    omega
  have hab' : ¬ (b : Int) < (a : Int) := by omega
  have hq0 : (0 : Int) ≤ (q : Int) := by omega
  have hqn' : (q : Int) ≤ (n : Int) := by omega
  have hn' : (n : Int) ≤ 100 := by omega
  have HP := Lib.hid (fun w1 (hb1 : Below w.heap.size w w1) => hitsP_any A n c s tr w1 ((HH.out.below hb1).more hb1.size) HW'.out (by omega) h1 (by omega))
  have hs1 : ((s + 1 : Nat) : Int) = (s : Int) + 1 := by push_cast; rfl
  have HP1 := Lib.hid (fun w1 (hb1 : Below w.heap.size w w1) => hitsP_any A n c (s + 1) tr w1 ((HH.out.below hb1).more hb1.size) HW'.out (by omega) (by omega) (by omega))
  have HQ := Lib.hid (fun w1 g (hb1 : Below w.heap.size w w1) hk => checkP_any A (some ⟨g, 0, none⟩) n c n s tr (turnsL s tr []) w1 ((HH.out.below hb1).more hb1.size) hk HW'.out (turns_wf h1 HW'.out) (by omega) h1 (by omega))
  have HX := Lib.hid (fun w1 (hb1 : Below w.heap.size w w1) => different_any A n c tr w1 _ (HH.out.below hb1) (by omega))
  rw [hb, hs1] at HP1
  rw [(check_turns h1 tr).1, (check_turns h1 tr).2, ha] at HQ
  rw [hq] at HX
  rw [ha] at HP
  have HA := Lib.hid ha
  have HLN := Lib.hid hlen
  clear h hw h' hw' hs1 ha hb hq hab hlen
  go_enter Try.func8, Try.ntmps8
  go_wp2_with fail
  refine (turnsP_any A n c s tr w HH.out HW'.out (by omega) h1 (by omega)).mono ?_
  rintro e w1 ⟨g, rfl, hg, hk1, hb1⟩
  have HB1 := Lib.hid hb1
  have HK1 := Lib.hid (hk1.reads (n := n) (size := 3) (turns_len HH.out))
  clear hb1 hk1 hg
  have HC := Lib.hid (HP.out w1 HB1.out)
  go_wp2_with fail
  refine HC.out.mono ?_
  rintro e w2 ⟨rfl, hb2⟩
  have HB2 := Lib.hid (HB1.out.trans (hb2.mono HB1.out.size))
  have HK2 := Lib.hid ((HK1.out.below hb2).more hb2.size)
  clear hb2 HC
  have HC := Lib.hid (HQ.out w2 _ HB2.out HK2.out)
  go_wp2_with fail
  refine HC.out.mono ?_
  rintro e w3 ⟨rfl, hb3⟩
  have HB3 := Lib.hid (HB2.out.trans (hb3.mono HB2.out.size))
  clear hb3 HC
  have HC := Lib.hid (HP1.out w3 HB3.out)
  go_wp2_with fail
  refine HC.out.mono ?_
  rintro e w4 ⟨rfl, hb4⟩
  have HB4 := Lib.hid (HB3.out.trans (hb4.mono HB3.out.size))
  clear hb4 HC
  have HC := Lib.hid (HX.out w4 HB4.out)
  go_wp2_with fail
  refine HC.out.mono ?_
  rintro e w' ⟨rfl, rfl⟩
  clear HC
  go_upto_region 10 with fail
  go_cut [105] (fun v wx => v = .bool false ∧ wx = w4)
  case first =>
    by_cases hqs : q ≤ s
    · have hqs' : (q : Int) ≤ (s : Int) := by omega
      have hqd : decide ((q : Int) ≤ (s : Int)) = true := by simpa using hqs
      have hae : ((a : Int) != (n : Int) - (q : Int)) = false := by have := haq hqs; simp; omega
      clear haq
      go_wp2_with fail
      go_meet
      exact ⟨rfl, rfl⟩
    · have hqs' : ¬ (q : Int) ≤ (s : Int) := by omega
      have hqd : decide ((q : Int) ≤ (s : Int)) = false := by simpa using hqs
      clear haq
      go_wp2_with fail
      go_meet
      exact ⟨rfl, rfl⟩
  case rest =>
   obtain ⟨rfl, rfl⟩ := hcut
   clear haq
   go_upto_if 108 with fail
   go_cut [] (fun wx => Below w.heap.size w wx)
   case first =>
     by_cases h9 : n ≤ 9
     · have h9' : (n : Int) ≤ 9 := by omega
       have h9d : decide ((n : Int) ≤ 9) = true := by simpa using h9'
       have HC := Lib.hid (bestP_any A n c s tr wc ((HH.out.below HB4.out).more HB4.out.size) HW'.out (by omega) h1 (by omega))
       rw [hv] at HC
       clear hv
       go_wp2_with fail
       refine HC.out.mono ?_
       rintro e w5 ⟨rfl, hb5⟩
       have HB5 := Lib.hid (HB4.out.trans (hb5.mono HB4.out.size))
       clear hb5 HC
       go_wp2_with fail
       go_meet
       exact HB5.out
     · have h9' : ¬ (n : Int) ≤ 9 := by omega
       have h9d : decide ((n : Int) ≤ 9) = false := by simpa using h9'
       clear hv
       go_wp2_with fail
       go_meet
       exact HB4.out
   case rest =>
    clear hv
    have HB5 := Lib.hid hcut
    clear hcut
    go_wp2_with fail
    go_loopw [18, 19, 20] (fun vK vO x wr => ∃ (k : Nat) (S : List Int) (ts : List Turn), k ≤ n ∧ x = .int .i64 k ∧ HM w wr k vK S vO ts ∧ Pol s tr k ts S) (fun _ _ x _ => n - (intOf x).toNat)
    case atStart => exact ⟨0, [], [], Nat.zero_le _, rfl, HM.start HB5.out, Pol.start s tr⟩
    case round =>
      obtain ⟨k, S, ts, hk, rfl, hm, hp⟩ := hrel
      by_cases hlt : k < n
      · have hkt : Hid (k < tr.length) := by rw [HLN.out]; exact hlt
        obtain ⟨AK, cK, rfl, hrK⟩ := own_slice hm.keys
        obtain ⟨bT, oT, rfl, hbw, hcT⟩ := (HH.out.below hm.below).int_at hlt
        have hk0 : (0 : Int) ≤ (k : Int) := Int.natCast_nonneg _
        have hk1 : (k : Int) < (n : Int) := by omega
        have hroom := hp.room
        have HM1 := Lib.hid hm
        have HPol := Lib.hid hp
        have HRK := Lib.hid hrK
        have hbwr : bT < wr.heap.size := by have := hm.below.size; omega
        clear hm hp hrK
        go_wp2
        have hbl := Blk.new wr 50 #[.bool false, .bool false, .int .u32 0]
        have HBL := Lib.hid hbl
        have hrk := HRK.out.alloc (Nat.le_refl _) (.cells #[.bool false, .bool false, .int .u32 0] 50)
        have HRX := Lib.hid hrk
        have hct : (wr.alloc (.cells #[.bool false, .bool false, .int .u32 0] 50)).cell? ⟨bT, oT + k, none⟩ = some (.int .u32 (nth tr k)) := by
          rw [World.cell?_alloc_lt wr _ _ hbwr]; exact hcT
        have HWX := Lib.hid (show wr.grownBy (wr.alloc (.cells #[.bool false, .bool false, .int .u32 0] 50)) none from World.grownBy_alloc wr _ none)
        have hsz : (wr.alloc (.cells #[.bool false, .bool false, .int .u32 0] 50)).heap.size = wr.heap.size + 1 := by simp
        have HSZ := Lib.hid hsz
        have HCT := Lib.hid hct
        have HCW := Lib.hid ((HM1.out.below.cell (p := ⟨bT, oT + k, none⟩) hbw).symm.trans hcT)
        clear hbl hrk hct hcT hsz
        generalize wr.alloc (.cells #[.bool false, .bool false, .int .u32 0] 50) = wx at *
        go_loopw [22, 23] (fun vA y w5 => ∃ (j q5 : Nat) (z : Int), j ≤ S.length ∧ y = .int .i64 j ∧ vA = .int .i64 z ∧ AtIs S (nth tr k) j z ∧ w5 = wx.drewN q5) (fun _ y _ => S.length - (intOf y).toNat)
        case atStart => exact ⟨0, 0, -1, Nat.zero_le _, rfl, rfl, AtIs.start _ _, rfl⟩
        case round =>
          obtain ⟨j, q5, z, hj, rfl, rfl, hat, rfl⟩ := hrel
          have HAT := Lib.hid hat
          have hct := HCT.out
          by_cases hjl : j < S.length
          · obtain ⟨bK, oK, rfl, hbk, hck⟩ := HRX.out.int_at hjl
            have hj0 : (0 : Int) ≤ (j : Int) := Int.natCast_nonneg _
            have hj1 : (j : Int) < (S.length : Int) := by omega
            have hjn : (j : Int) ≤ 100 := by omega
            clear hat
            by_cases hx : nth S j = nth tr k
            · have HX1 := Lib.hid hx
              rw [hx] at hck
              have hxb : (nth tr k == nth tr k) = true := by simp
              clear hx
              go_wp2
              go_region
              all_goals
                go_wp2
                go_roundw
                case rel => exact ⟨j + 1, _, j, by omega, by go_num, rfl, AtIs.yes hjl (by omega) HX1.out, rfl⟩
                case measure => simp [intOf]; omega
            · have HX1 := Lib.hid hx
              have hxb : (nth S j == nth tr k) = false := by simpa using hx
              clear hx
              go_wp2
              go_region
              all_goals
                go_wp2
                go_roundw
                case rel => exact ⟨j + 1, _, z, by omega, by go_num, rfl, HAT.out.no hjl HX1.out, rfl⟩
                case measure => simp [intOf]; omega
          · have hjd : j = S.length := by omega
            subst hjd
            have hnl : ¬ ((S.length : Int) < (S.length : Int)) := by omega
            have HALL := Lib.hid hat.all
            clear hat hct hjl
            have fx := (HBL.out.drewN q5).frozen 0
            have cx0 := (HBL.out.drewN q5).cell 0
            have cx1 := (HBL.out.drewN q5).cell 1
            have cx2 := (HBL.out.drewN q5).cell 2
            simp only [List.getElem?_toArray, List.getElem?_cons_zero, List.getElem?_cons_succ] at cx0 cx1 cx2
            by_cases hmem : nth tr k ∈ S
            · have hz0 : (0 : Int) ≤ z := HALL.out.2 hmem
              have HMEM := Lib.hid hmem
              clear hmem
              have hm0 := HM1.out.made HWX.out q5 0 (.bool true)
              have hb0 := hm0.below.size
              have hown := hm0.other
              have HM0 := Lib.hid hm0
              clear hm0
              go_wp2_with (first
                | (at_builtin; (refine wpList_app1' ((wx.drewN q5).setCell ⟨wr.heap.size, 0, none⟩ (.bool true)) wx.heap.size (by simp) rfl (.tmp 192) (.tmp 194) 31 rfl w.heap.size 50 3 8 _ info50 Try.underlying31 rfl (by omega) _ _ _ [.bool true, .bool false, .int .u32 0] rfl hown rfl (by simp [Value.oneCell']) rfl (by unfold maxLen; omega) (by omega) hb0 ?_); intro v' w9 hown' hg'))
              have hm9 := HM0.out.turn (ts' := ts ++ [⟨true, false, 0⟩]) hg' (by rw [tcells_snoc]; exact hown')
              have HM9 := Lib.hid hm9
              clear hm9 hown' hg' hown hb0
              go_roundw
              case rel => exact ⟨k + 1, S, ts ++ [⟨true, false, 0⟩], by omega, by go_num, HM9.out, HPol.out.hit hkt.out HMEM.out⟩
              case measure => simp [intOf]; omega
            · have hz0 : ¬ (0 : Int) ≤ z := fun e => hmem (HALL.out.1 e)
              have HMEM := Lib.hid hmem
              clear hmem
              by_cases hfull : S.length = s
              · have hfull' : (S.length : Int) = (s : Int) := by omega
                have hf0 : 0 < S.length := by omega
                obtain ⟨gK, cK', hv, _, hgk⟩ := HM1.out.keys.form hf0
                obtain ⟨rfl, rfl⟩ : AK = some ⟨gK, 0, none⟩ ∧ cK = cK' := by
                  injection hv with e1 e2 e3
                  exact ⟨e1, e3⟩
                clear hv
                have hgne : gK ≠ wr.heap.size := by omega
                have hm0 := HM1.out.made HWX.out q5 0 (.bool false)
                have HM0 := Lib.hid hm0
                have hbx := (HBL.out.drewN q5).set_ 0 (.bool false)
                have HBX := Lib.hid hbx
                clear hm0 hbx
                have hs00 : ¬ (s : Int) = 0 := by omega
                go_upto_if 159 with fail
                go_cut [24] from 122 to 195 (fun v w5 => ∃ jj : Nat, jj < s ∧ v = .int .i64 jj ∧ w5 = ((wx.drewN q5).setCell ⟨wr.heap.size, 0, none⟩ (.bool false)))
                case first =>
                  clear hfull hfull'
                  by_cases hkm : k < m
                  · have hkm' : (k : Int) < (m : Int) := by omega
                    have hkd : decide ((k : Int) < (m : Int)) = true := by simpa using hkm
                    obtain ⟨bN, oN, rfl, hbn, hcn⟩ := (HZ.out.below HM0.out.below).int_at hkm
                    have hwz := HZ'.out _ (nth_mem (by rw [HZ.out.int_len]; exact hkm))
                    obtain ⟨y, hy0, hy1⟩ := u8_nat hwz
                    rw [hy0] at hcn
                    have hmod : (y : Int) % (s : Int) = ((y % s : Nat) : Int) := by push_cast; rfl
                    have hys := Nat.mod_lt y (show 0 < s by omega)
                    have hyb : (y : Int) ≤ 255 := by omega
                    clear hwz hy0
                    generalize y % s = jj at hmod hys
                    go_wp2_with fail
                    go_meet
                    exact ⟨jj, hys, rfl, rfl⟩
                  · have hkm' : ¬ (k : Int) < (m : Int) := by omega
                    have hkd : decide ((k : Int) < (m : Int)) = false := by simpa using hkm
                    go_wp2_with fail
                    go_meet
                    exact ⟨0, by omega, rfl, rfl⟩
                case rest =>
                  obtain ⟨jj, hys, rfl, rfl⟩ := hcut
                  have hjl : jj < S.length := by omega
                  have hck := ((HRX.out.drewN q5).setCell (p := ⟨wr.heap.size, 0, none⟩) (by simp) (.bool false)).int_at hjl
                  obtain ⟨b1, o1, e1, _, hck⟩ := hck
                  injection e1 with e1
                  injection e1 with e1 e2
                  subst e1 e2
                  rw [Nat.zero_add] at hck
                  have HG2 := Lib.hid (grew_set (only_drewN HWX.out q5) (p := ⟨wr.heap.size, 0, none⟩) (Nat.le_refl _) (.bool false))
                  go_wp2
                  generalize (wx.drewN q5).setCell ⟨wr.heap.size, 0, none⟩ (.bool false) = W2 at *
                  have f1 := HBX.out.frozen 1
                  have f2 := HBX.out.frozen 2
                  have x0 := HBX.out.cell 0
                  have x1 := HBX.out.cell 1
                  have x2 := HBX.out.cell 2
                  simp only [List.setIfInBounds_toArray, List.set_cons_zero, List.getElem?_toArray, List.getElem?_cons_zero, List.getElem?_cons_succ] at x0 x1 x2
                  have hj0 : (0 : Int) ≤ (jj : Int) := by omega
                  have hj1 : (jj : Int) < (S.length : Int) := by omega
                  go_region
                  all_goals
                    have HG3 := Lib.hid (only_drew (grew_set (grew_set HG2.out (p := ⟨wr.heap.size, 1, none⟩) (Nat.le_refl _) (.bool true)) (p := ⟨wr.heap.size, 2, none⟩) (Nat.le_refl _) (.int .u32 (nth S jj))))
                    have HBX3 := Lib.hid (((HBX.out.set_ 1 (.bool true)).set_ 2 (.int .u32 (nth S jj))).drew)
                    clear f1 f2 x0 x1 x2 hck
                    generalize ((W2.setCell ⟨wr.heap.size, 1, none⟩ (.bool true)).setCell ⟨wr.heap.size, 2, none⟩ (.int .u32 (nth S jj))).drew = W3 at *
                    have HM3 := Lib.hid (HM1.out.more HG3.out)
                    have hb3 := HM3.out.below.size
                    have hrk := Reads.of_own HM3.out.keys
                    have hcap := own_cap HM3.out.keys hf0
                    have HR1 := Lib.hid (reads_take hrk hjl)
                    have hr2 := reads_drop (c := cK) hrk hjl hcap
                    rw [Option.map_some, add_spot _ _ rfl, hfull] at hr2
                    simp only [Nat.zero_add] at hr2
                    have HR2 := Lib.hid hr2
                    have hs4 : ((jj : Int) + 1 : Int) ≤ (s : Int) := by omega
                    have hs5 : (s : Int) ≤ (cK : Int) := by omega
                    have hs8 : (jj : Int) ≤ (cK : Int) := by omega
                    have hw1 : IntKind.i64.wrap ((jj : Int) + 1) = (jj : Int) + 1 := IntWalk.i64_in _ (by omega)
                    have hs6 : (0 : Int) ≤ (jj : Int) + 1 := by omega
                    have hs7 : ((jj : Int) + 1).toNat = jj + 1 := by omega
                    clear hrk hr2
                    go_wp2
                    go_region_held3 (fun _ => True) (trivial)
                      (first
                        | (refine step_copy W3.drew rfl (.const (.slice none 0 0)) (.tmp 175) rfl (by rfl) w.heap.size W3.heap.size (some ⟨gK, 0, none⟩) (jj) cK (S.take (jj)) (by rfl) HR1.out (by omega) hb3 ?_; intro v1 w1 hown1 hg1)
                        | (refine app_two w1 rfl (.tmp 176) (.tmp 180) rfl v1 (jj) (S.take (jj)) (by rfl) w.heap.size W3.heap.size _ (s - (jj + 1)) (cK - (jj + 1)) (S.drop (jj + 1)) (by rfl) hown1 (HR2.out.drew.grown hg1 (Nat.le_refl _) (by simp)) (by omega) (by omega) (Nat.le_trans hb3 hg1.size) ?_; intro v7 w7 hown7 hg7))
                    have HM7 := Lib.hid (HM3.out.swapped (j := jj) hg1 hown1 hg7 hown7 hfull hjl)
                    have HBX7 := Lib.hid ((HBX3.out.drew.grown hg1 (by simp)).grown hg7 (blk_far (HBX3.out.drew.grown hg1 (by simp)) hown1 (by decide)))
                    have hTl : (S.take (jj) ++ S.drop (jj + 1)).length ≤ 20 := by simp; omega
                    have y0 := HBX7.out.cell 0
                    simp only [List.setIfInBounds_toArray, List.set_cons_zero, List.set_cons_succ, List.getElem?_toArray, List.getElem?_cons_zero, List.getElem?_cons_succ] at y0
                    clear hg1 hown1 hg7 hown7 HR1 HR2
                    have hown7 := HM7.out.keys
                    have hb7 := HM7.out.below.size
                    have hct : w7.cell? ⟨bT, oT + k, none⟩ = some (.int .u32 (nth tr k)) := (HM7.out.below.cell (p := ⟨bT, oT + k, none⟩) hbw).trans HCW.out
                    go_wp2_with (first
                      | (at_builtin; (refine wpList_app1' w7 w7.heap.size rfl rfl (.tmp 185) (.tmp 190) 22 rfl w.heap.size 45 1 4 _ info45 Try.underlying22 rfl (by omega) v7 (S.take (jj) ++ S.drop (jj + 1)).length (ints .u32 (S.take (jj) ++ S.drop (jj + 1))) [.int .u32 (nth tr k)] rfl hown7 rfl (by simp [Value.oneCell']) rfl (by unfold maxLen; omega) (by omega) hb7 ?_); intro v8 w8 hown8 hg8
                         have bx8 := HBX7.out.grown hg8 (blk_far HBX7.out HM7.out.keys (by decide))
                         have x0 := bx8.cell 0
                         have x1 := bx8.cell 1
                         have x2 := bx8.cell 2
                         simp only [List.setIfInBounds_toArray, List.set_cons_zero, List.set_cons_succ, List.getElem?_toArray, List.getElem?_cons_zero, List.getElem?_cons_succ] at x0 x1 x2
                         have hm8 := HM7.out.key (vK' := v8) (S' := S.take (jj) ++ S.drop (jj + 1) ++ [nth tr k]) hg8 (by rw [ints_snoc, List.length_append]; exact hown8)
                         have hown9 := hm8.other
                         have hb9 := hm8.below.size
                         have HM8 := Lib.hid hm8
                         clear hm8 hg8 hown8 bx8)
                      | (at_builtin; (refine wpList_app1' w8 w8.heap.size rfl rfl (.tmp 192) (.tmp 194) 31 rfl w.heap.size 50 3 8 _ info50 Try.underlying31 rfl (by omega) _ _ _ [.bool false, .bool true, .int .u32 (nth S (jj))] rfl hown9 rfl (by simp [Value.oneCell']) rfl (by unfold maxLen; omega) (by omega) hb9 ?_); intro v9 w9 hownT hgT
                         have hm9 := HM8.out.turn (ts' := ts ++ [⟨false, true, nth S (jj)⟩]) hgT (by rw [tcells_snoc]; exact hownT)
                         have HM9 := Lib.hid hm9
                         clear hm9 hownT hgT hown9 hb9))
                    go_roundw
                    case rel => exact ⟨k + 1, S.take (jj) ++ S.drop (jj + 1) ++ [nth tr k], ts ++ [⟨false, true, nth S (jj)⟩], by omega, by go_num, HM9.out, HPol.out.swap HW'.out hkt.out HMEM.out hjl⟩
                    case measure => simp [intOf]; omega
              · have hfull' : ¬ (S.length : Int) = (s : Int) := by omega
                have HM0 := Lib.hid (HM1.out.made HWX.out q5 0 (.bool false))
                have HBX := Lib.hid ((HBL.out.drewN q5).set_ 0 (.bool false))
                have hown7 := HM0.out.keys
                have hb7 := HM0.out.below.size
                have hct : ((wx.drewN q5).setCell ⟨wr.heap.size, 0, none⟩ (.bool false)).cell? ⟨bT, oT + k, none⟩ = some (.int .u32 (nth tr k)) := (HM0.out.below.cell (p := ⟨bT, oT + k, none⟩) hbw).trans HCW.out
                go_wp2_with (first
                  | (at_builtin; (refine wpList_app1' ((wx.drewN q5).setCell ⟨wr.heap.size, 0, none⟩ (.bool false)) wx.heap.size (by simp) rfl (.tmp 185) (.tmp 190) 22 rfl w.heap.size 45 1 4 _ info45 Try.underlying22 rfl (by omega) (.slice AK S.length cK) (S).length (ints .u32 (S)) [.int .u32 (nth tr k)] rfl hown7 rfl (by simp [Value.oneCell']) rfl (by unfold maxLen; omega) (by omega) hb7 ?_); intro v8 w8 hown8 hg8
                     have bx8 := HBX.out.grown hg8 (blk_far HBX.out HM0.out.keys (by decide))
                     have x0 := bx8.cell 0
                     have x1 := bx8.cell 1
                     have x2 := bx8.cell 2
                     simp only [List.setIfInBounds_toArray, List.set_cons_zero, List.set_cons_succ, List.getElem?_toArray, List.getElem?_cons_zero, List.getElem?_cons_succ] at x0 x1 x2
                     have hm8 := HM0.out.key (vK' := v8) (S' := S ++ [nth tr k]) hg8 (by rw [ints_snoc, List.length_append]; exact hown8)
                     have hown9 := hm8.other
                     have hb9 := hm8.below.size
                     have HM8 := Lib.hid hm8
                     clear hm8 hg8 hown8 bx8)
                  | (at_builtin; (refine wpList_app1' w8 w8.heap.size rfl rfl (.tmp 192) (.tmp 194) 31 rfl w.heap.size 50 3 8 _ info50 Try.underlying31 rfl (by omega) _ _ _ [.bool false, .bool false, .int .u32 0] rfl hown9 rfl (by simp [Value.oneCell']) rfl (by unfold maxLen; omega) (by omega) hb9 ?_); intro v9 w9 hownT hgT
                     have hm9 := HM8.out.turn (ts' := ts ++ [⟨false, false, 0⟩]) hgT (by rw [tcells_snoc]; exact hownT)
                     have HM9 := Lib.hid hm9
                     clear hm9 hownT hgT hown9 hb9))
                go_roundw
                case rel => exact ⟨k + 1, S ++ [nth tr k], ts ++ [⟨false, false, 0⟩], by omega, by go_num, HM9.out, HPol.out.add hkt.out HMEM.out hfull⟩
                case measure => simp [intOf]; omega
      · have hkn : k = n := by omega
        have hnl : ¬ ((k : Int) < (n : Int)) := by omega
        rw [hkn] at hm hp
        have hdone := hp.done HLN.out h1
        rw [HA.out] at hdone
        have hle : (hits ts : Int) ≤ (a : Int) := by have := hdone.2; omega
        obtain ⟨AO, cO, rfl, hrO⟩ := own_slice hm.other
        have hck := checkP_any A AO n c cO s tr ts wr ((HH.out.below hm.below).more hm.below.size) hrO HW'.out hp.wf (by omega) h1 (by omega)
        rw [show checkH s tr ts = hits ts by unfold checkH; rw [hdone.1]; rfl, show checkE s tr ts = 0 by unfold checkE; rw [hdone.1]; rfl] at hck
        have HCK := Lib.hid hck
        have HBL := Lib.hid hm.below
        clear hck hdone hm hp hrO hkn hlt
        go_wp2_with fail
        refine HCK.out.mono ?_
        rintro e w7 ⟨rfl, hb7⟩
        have HB7 := Lib.hid (HBL.out.trans (hb7.mono HBL.out.size))
        clear hb7
        go_wp2_with fail
        refine (known_any _).mono ?_
        rintro e w8 ⟨rfl, hb8⟩
        have HB8 := Lib.hid (HB7.out.trans (hb8.mono HB7.out.size))
        clear hb8
        go_wp2
        go_ret
        exact ⟨rfl, HB8.out⟩

theorem holds_law (A D : Option Addr) (n c m d : Nat) (s : Int) (tr zs : List Int) (w : World) (h : Reads w w.heap.size 1 A n (ints .u32 tr)) (hw : ∀ x ∈ tr, (Lit.int .u32 x).wf = true)
    (h' : Reads w w.heap.size 1 D m (ints .u8 zs)) (hw' : ∀ x ∈ zs, (Lit.int .u8 x).wf = true) (hn : n ≤ maxLen) (hm : m ≤ maxLen) :
    Calls Try.prog 8 #[.slice A n c, .int .i64 s, .slice D m d] w fun e w' => e = .returned (.bool true) ∧ Below w.heap.size w w' := by
  by_cases hc : 100 < n ∨ s < 1 ∨ 20 < s ∨ 100 < m
  · exact holds_out A D n c m d s w hn hm hc
  · obtain ⟨z, rfl⟩ : ∃ z : Nat, s = z := ⟨s.toNat, by omega⟩
    exact holds_in A D n c m d z tr zs w h hw h' hw' (by omega) (by omega) (by omega) (by omega)

theorem holds_lifted (os : Os) (started : os.Started) (H : Type) (enc : TypeId × Value → H) :
    ReturnsInHanded {} Try.checked os 8 .any (Rows.beladyHoldsSpec.pre6 enc Try.prog Try.f8 Rows.beladyHoldsRow.domain false) (Rows.beladyHoldsSpec.post enc Try.prog Try.f8 false true false false) := by
  refine returnsInHanded_of_change_sized (C := Try.checked) own started (by kernel_rfl) Try.func8
    (ChangeSpec.witness6 (enc := enc) (C := Try.checked) false ⟨#[], #[.slice none 0 0, .int .i64 0, .slice none 0 0], []⟩ 8 (by kernel_rfl) (by kernel_rfl) (by kernel_rfl) (by kernel_rfl)) ?_
  intro W base args ds gs before hval hW _ _ _
  have hval : ∀ (j : Nat) t v, Try.f8.params[j]? = some t → args[j]? = some v → Value.okWide Try.prog W .any base t v := hval
  have hW : DataW.Whole enc Try.prog Try.f8.params.toList Rows.beladyHoldsSpec.vars false W args.toList ds gs before := hW
  have hW0 := hW
  obtain ⟨p, q, hA, _, rfl, _, _⟩ := hW
  rw [Try.params8] at hA hval
  obtain ⟨v0, vs0, d0, ds0, p0, q0, hargs0, rfl, rfl, h0, r0⟩ := trodAll_cons hA
  obtain ⟨v1, vs1, d1, ds1, p1, q1, hargs1, rfl, rfl, h1, r1⟩ := trodAll_cons r0
  subst hargs1
  obtain ⟨v2, vs2, d2, ds2, p2, q2, hargs2, rfl, rfl, h2, r2⟩ := trodAll_cons r1
  subst hargs2
  obtain ⟨rfl, rfl, rfl⟩ := trodAll_nil r2
  obtain rfl : args = #[v0, v1, v2] := by cases args; simp_all
  clear hargs0
  obtain ⟨A, n, c, tr, rfl, hr, hwf, hn⟩ := read_u32 (hval 0 22 v0 rfl rfl) h0
  obtain ⟨s, rfl, rfl, rfl, _⟩ := open_int Try.underlying3 (hval 1 3 v1 rfl rfl) h1
  obtain ⟨D, m, d, zs, rfl, hr', hwf', hm⟩ := read_u8 (hval 2 47 v2 rfl rfl) h2
  refine (holds_law A D n c m d s tr zs W hr hwf hr' hwf' hn hm).mono fun e W' ⟨he, hb⟩ => ?_
  subst he
  refine ⟨_, rfl, law_done rfl (by kernel_rfl) (by decide +kernel) (fun ds hl => ?_) hW0 hb⟩
  match ds, hl with
  | [_, _, _], _ => rfl

theorem holds_holds : Rows.BeladyHoldsSaid :=
  OpenClaim.holds_of_wide 8 Try.f8 rfl rfl rfl rfl rfl rfl rfl ⟨rfl, rfl, rfl, rfl, rfl⟩ rfl rfl rfl rfl rfl (by kernel_rfl) Try.func8 (by kernel_rfl)
    (of_decide_eq_true (by kernel_rfl)) (by unfold Func.isWrapper; first | (rw [if_pos (by decide +kernel)]; kernel_rfl) | (rw [if_neg (by decide +kernel)]; exact ⟨rfl, rfl⟩))
    (fun os started H enc _ => holds_lifted os started H enc)

#print axioms holds_holds
end Go.Proofs.Ythclmacnmbmepaa
