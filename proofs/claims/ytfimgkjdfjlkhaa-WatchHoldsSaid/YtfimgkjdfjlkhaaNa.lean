/- 'few', 'fine' and the law's own words on valid rules. -/
import Derived.Test.YtfimgkjdfjlkhaaMu
namespace Go.Proofs.Ytfimgkjdfjlkhaa
open Go.RowKit Go.Deep Go.Maps

def zeroAc : Ac := ⟨0, 0, 0, ⟨⟨#[]⟩, [], 0, false, none, 0⟩, none, 0, []⟩
def anth (l : List Ac) (j : Nat) : Ac := l.getD j zeroAc
theorem anth_eq {l : List Ac} {j : Nat} (h : j < l.length) : anth l j = l[j] := by unfold anth; rw [List.getD, List.getElem?_eq_getElem h]; rfl
theorem anth_mem {l : List Ac} {j : Nat} (h : j < l.length) : anth l j ∈ l := by rw [anth_eq h]; exact List.getElem_mem h
theorem acells_at (l : List Ac) : ∀ j i, j < l.length → i < 8 → (l.flatMap Ac.cells)[j * 8 + i]? = (anth l j).cells[i]? := by
  induction l with
  | nil => intro j i hj; simp at hj
  | cons h t ih =>
    intro j i hj hi
    have hl : h.cells.length = 8 := rfl
    cases j with
    | zero =>
      rw [List.flatMap_cons, Nat.zero_mul, Nat.zero_add, List.getElem?_append_left (by omega)]; rfl
    | succ j =>
      rw [List.flatMap_cons, List.getElem?_append_right (by omega), hl, show (j + 1) * 8 + i - 8 = j * 8 + i by omega, ih j i (by simpa using hj) hi]
      rfl
theorem reads8 {w : World} {B n j : Nat} {A : Option Addr} {l : List Ac} (h : Reads w B 8 A n (l.flatMap Ac.cells)) (hl : l.length = n) (hj : j < n) : ∃ b o : Nat, A = some ⟨b, o, none⟩ ∧ b < B ∧ ∀ i v, (anth l j).cells[i]? = some v → w.cell? ⟨b, o + j * 8 + i, none⟩ = some v := by
  obtain ⟨ad, e, hb, hc⟩ := h.2 (by omega)
  have hat := fun i hi => acells_at l j i (by omega) hi
  have hs0 : ad.spot = none := by
    have := hc 0 _ (by have := acells_at l 0 0 (by omega) (by omega); simpa [Ac.cells] using this)
    have := spot_of_cell this
    unfold Addr.add at this; simpa using this
  obtain ⟨b, o, s⟩ := ad
  simp only at hs0
  subst hs0
  refine ⟨b, o, e, hb, fun i v hv => ?_⟩
  have hi : i < 8 := by
    have := (List.getElem?_eq_some_iff.1 hv).1
    exact this
  have := hc (j * 8 + i) v (by rw [hat i hi]; exact hv)
  rwa [add_spot _ _ rfl, ← Nat.add_assoc] at this
def fewTo (w : World) (l : List Ac) (most : Nat) (e : Ending) (w' : World) : Prop := ∃ b : Bool, e = .returned (.bool b) ∧ (b = true → l.length ≤ most ∧ ∀ a ∈ l, LightA a) ∧ Below w.heap.size w w'
set_option maxRecDepth 100000 in
set_option maxHeartbeats 2000000 in
theorem few_any (l : List Ac) (A : Option Addr) (n c most : Nat) (w : World) (hn : l.length = n) (hr : Reads w w.heap.size 8 A n (l.flatMap Ac.cells)) (hin : ∀ a ∈ l, AcIn w a) (hl : n ≤ maxLen) (_hm : most ≤ 1000) :
    Calls Try.prog 15 #[.slice A n c, .int .i64 most] w (fewTo w l most) := by
  have HR := Lib.hid hr
  have HIN := Lib.hid hin
  unfold maxLen at hl
  clear hr hin
  go_enter Try.func15, Try.ntmps15
  go_wp2
  go_loopw [5] (fun x wr => ∃ j : Nat, j ≤ n ∧ j ≤ most ∧ x = .int .i64 j ∧ Below w.heap.size w wr ∧ ∀ i < j, LightA (anth l i)) (fun x _ => most - (intOf x).toNat)
  case atStart => exact ⟨0, Nat.zero_le _, Nat.zero_le _, rfl, Below.refl _ _, fun i hi => absurd hi (by omega)⟩
  case round =>
    obtain ⟨j, hj, hjm, rfl, hb, hall⟩ := hrel
    have HA := Lib.hid hall
    have HB := Lib.hid hb
    clear hall hb
    by_cases hlt : j < n
    · by_cases hltm : j < most
      · have hj0 : (0 : Int) ≤ (j : Int) := Int.natCast_nonneg _
        have hj1 : (j : Int) < (n : Int) := by omega
        have hj2 : (j : Int) < (most : Int) := by omega
        obtain ⟨b, o, rfl, hbl, hc⟩ := reads8 (HR.out.below HB.out) hn hlt
        have ha := HIN.out (anth l j) (anth_mem (by omega))
        have HLI := Lib.hid (light_any (anth l j) wr ((ha.evs.below HB.out).more HB.out.size) ha.len)
        have hal : Hid (anth l j ∈ l) := Lib.hid (anth_mem (by omega))
        obtain ⟨a, hae⟩ : ∃ a, a = anth l j := ⟨_, rfl⟩
        rw [← hae] at hc HLI
        have HAE := Lib.hid hae
        clear ha hae
        obtain ⟨what, an, am, r, eA, ec, es⟩ := a
        have c0 := hc 0 _ rfl
        have c1 := hc 1 _ rfl
        have c2 := hc 2 _ rfl
        have c3 := hc 3 _ rfl
        have c4 := hc 4 _ rfl
        have c5 := hc 5 _ rfl
        have c6 := hc 6 _ rfl
        have c7 := hc 7 _ rfl
        simp only [Nat.add_zero] at c0 c1 c2 c3 c4 c5 c6 c7
        simp only [Ac.v] at HLI
        clear hc
        go_wp2_with fail
        refine HLI.out.mono ?_
        rintro e w2 ⟨bb, rfl, hbb, hb2⟩
        have HB2 := Lib.hid (HB.out.trans (hb2.mono HB.out.size))
        have HBB := Lib.hid hbb
        clear hb2 hbb c0 c1 c2 c3 c4 c5 c6 c7
        cases bb with
        | false =>
          go_wp2
          go_ret
          exact ⟨false, rfl, (fun e => by cases e), HB2.out⟩
        | true =>
          go_wp2
          go_roundw
          case rel =>
            refine ⟨j + 1, by omega, by omega, by go_num, HB2.out, fun i hi => ?_⟩
            by_cases e : i = j
            · subst e
              rw [← HAE.out]
              exact HBB.out (by first | rfl | trivial)
            · exact HA.out i (by omega)
          case measure => simp [intOf]; omega
      · have hd1 : (j : Int) < (n : Int) := by omega
        have hd2 : decide ((j : Int) < (most : Int)) = false := by simp; omega
        have hd3 : decide ((n : Int) ≤ (most : Int)) = false := by simp; omega
        go_wp2
        go_ret
        exact ⟨false, ret_bool (by simp; omega), (fun e => by cases e), HB.out⟩
    · have hd1 : decide ((j : Int) < (n : Int)) = false := by simp; omega
      have hd3 : (n : Int) ≤ (most : Int) := by omega
      have hje : Hid (j = l.length ∧ l.length ≤ most) := Lib.hid (by omega)
      go_wp2
      go_ret
      refine ⟨true, rfl, fun _ => ⟨hje.out.2, fun a ha => ?_⟩, HB.out⟩
      obtain ⟨i, hi, rfl⟩ := List.getElem_of_mem ha
      rw [← anth_eq hi]
      exact HA.out i (by rw [hje.out.1]; exact hi)
theorem badB_false {hs : List Hv} (h : ∀ x ∈ hs, validE x.e = true) : badB hs = false := by
  unfold badB
  rw [List.any_eq_false]
  intro x hx
  rw [h x hx]
  simp
theorem badB_true {hs : List Hv} {x : Hv} (hx : x ∈ hs) (h : validE x.e = false) : badB hs = true := by
  unfold badB
  rw [List.any_eq_true]
  exact ⟨x, hx, by rw [h]; rfl⟩
set_option maxRecDepth 100000 in
set_option maxHeartbeats 2000000 in
theorem fine_any (A : Option Addr) (n c : Nat) (hs : List Hv) (w : World) (h : EvsAt w w.heap.size A n hs) (hn : n ≤ 1000000) :
    Calls Try.prog 18 #[.slice A n c] w fun e w' => e = .returned (.bool (!badB hs)) ∧ Below w.heap.size w w' := by
  have HH := Lib.hid h
  have HL := Lib.hid h.len
  clear h
  go_enter Try.func18, Try.ntmps18
  go_wp2
  go_loopw [3] (fun x wr => ∃ j : Nat, j ≤ n ∧ x = .int .i64 j ∧ Below w.heap.size w wr ∧ ∀ i < j, validE (hnth hs i).e = true) (fun x _ => n - (intOf x).toNat)
  case atStart => exact ⟨0, Nat.zero_le _, rfl, Below.refl _ _, fun i hi => absurd hi (by omega)⟩
  case round =>
    obtain ⟨j, hj, rfl, hb, hall⟩ := hrel
    have HA := Lib.hid hall
    have HB := Lib.hid hb
    clear hall hb
    by_cases hlt : j < n
    · have hj0 : (0 : Int) ≤ (j : Int) := Int.natCast_nonneg _
      have hj1 : (j : Int) < (n : Int) := by omega
      have hjl : j < hs.length := by rw [HL.out]; exact hlt
      obtain ⟨b, o, rfl, hbl, a0, a1, a2, a3, a4, a5⟩ := (HH.out.below HB.out).at_ hlt
      have HV := Lib.hid (valid_any (hnth hs j).e.kind (hnth hs j).e.key (hnth hs j).A (hnth hs j).e.val.length (hnth hs j).c (hnth hs j).e.birth (hnth hs j).e.due (hnth hs j).e.at_ wr (HH.out.ok _ (hnth_mem hjl)).key)
      have HE : Hid (validE (hnth hs j).e = validB (hnth hs j).e.kind (hnth hs j).e.key.size (hnth hs j).e.val.length (hnth hs j).e.birth (hnth hs j).e.due (hnth hs j).e.at_) := Lib.hid rfl
      generalize hvb : validB (hnth hs j).e.kind (hnth hs j).e.key.size (hnth hs j).e.val.length (hnth hs j).e.birth (hnth hs j).e.due (hnth hs j).e.at_ = vb at *
      have HM : Hid (hnth hs j ∈ hs) := Lib.hid (hnth_mem hjl)
      clear hvb hjl
      go_wp2_with fail
      refine HV.out.mono ?_
      rintro e w2 ⟨rfl, hb2⟩
      have HB2 := Lib.hid (HB.out.trans (hb2.mono HB.out.size))
      clear hb2 a0 a1 a2 a3 a4 a5
      cases vb with
      | false =>
        go_wp2
        go_ret
        exact ⟨ret_bool (by rw [badB_true HM.out HE.out]; rfl), HB2.out⟩
      | true =>
        go_wp2
        go_roundw
        case rel =>
          refine ⟨j + 1, by omega, by go_num, HB2.out, fun i hi => ?_⟩
          by_cases e : i = j
          · subst e; exact HE.out
          · exact HA.out i (by omega)
        case measure => simp [intOf]; omega
    · have hd1 : decide ((j : Int) < (n : Int)) = false := by simp; omega
      have hje : Hid (j = hs.length) := Lib.hid (by rw [HL.out]; omega)
      go_wp2
      go_ret
      have hb0 : badB hs = false := badB_false fun x hx => by
        obtain ⟨i, hi, rfl⟩ := List.getElem_of_mem hx
        rw [← hnth_eq hi]
        exact HA.out i (by rw [hje.out]; exact hi)
      exact ⟨ret_bool (by rw [hb0]; rfl), HB.out⟩
theorem kinds_dup {kinds : List Int} {q j : Nat} (hq : q < j) (hj : j < kinds.length) (he : nth kinds q = nth kinds j) : kindsOk kinds = false := by
  unfold kindsOk
  have : ¬ kinds.Nodup := fun h => by
    have h1 := List.pairwise_iff_getElem.1 h q j (by omega) hj hq
    rw [nth_eq (by omega), nth_eq hj] at he
    exact h1 he
  simp [this]
theorem kinds_step {kinds : List Int} {j : Nat} (hj : j < kinds.length) (hok : kindsOk (kinds.take j) = true) (h1 : 1 ≤ nth kinds j) (h5 : nth kinds j ≤ 5) (hne : ∀ q < j, nth kinds q ≠ nth kinds j) : kindsOk (kinds.take (j + 1)) = true := by
  rw [List.take_succ_eq_append_getElem hj, ← nth_eq hj]
  unfold kindsOk at hok ⊢
  rw [Bool.and_eq_true, decide_eq_true_iff, decide_eq_true_iff] at hok ⊢
  have hni : nth kinds j ∉ kinds.take j := fun e => by
    obtain ⟨q, hq, e2⟩ := List.getElem_of_mem e
    rw [List.getElem_take] at e2
    have hqj : q < j := by simp at hq; omega
    exact hne q hqj (by rw [nth_eq (by omega)]; exact e2)
  refine ⟨fun x hx => ?_, ?_⟩
  · rcases List.mem_append.1 hx with hx | hx
    · exact hok.1 x hx
    · simp only [List.mem_singleton] at hx; subst hx; exact ⟨h1, h5⟩
  · exact (List.perm_append_singleton (nth kinds j) (kinds.take j)).nodup_iff.2 (by simp [hok.2, hni])
set_option maxRecDepth 100000 in
set_option maxHeartbeats 4000000 in
theorem lawValid_any (r : Ri) (w : World) (hk : KindsAt w r) (hn : r.kinds.length ≤ 1000000) :
    Calls Try.prog 16 #[r.v] w fun e w' => e = .returned (.bool (validRi r)) ∧ Below w.heap.size w w' := by
  obtain ⟨p, kinds, room, oldest, kA, kc⟩ := r
  simp only at hn
  have HKD := Lib.hid hk
  have HW := Lib.hid (show Below w.heap.size w (w.alloc (.cells #[.string p, .slice kA kinds.length kc, .int .i64 room, .bool oldest] 24)) from (Below.refl _ w).alloc (Nat.le_refl _) _)
  have HK0 := Lib.hid (Blk.new w 24 #[.string p, .slice kA kinds.length kc, .int .i64 room, .bool oldest])
  unfold Ri.v
  simp only
  clear hk
  go_enter Try.func16, Try.ntmps16
  go_wp2
  generalize w.alloc (.cells #[.string p, .slice kA kinds.length kc, .int .i64 room, .bool oldest] 24) = W0 at *
  go_loopw [3, 4] (fun x _ wr => ∃ (j k : Nat), j ≤ kinds.length ∧ x = .int .i64 j ∧ wr = W0.drewN k ∧ kindsOk (kinds.take j) = true) (fun x _ _ => kinds.length - (intOf x).toNat)
  case atStart => exact ⟨0, 0, Nat.zero_le _, rfl, rfl, rfl⟩
  case round =>
    obtain ⟨j, k, hj, rfl, rfl, hok⟩ := hrel
    have HOK := Lib.hid hok
    have c0 := (HK0.out.drewN k).cell 0
    have c1 := (HK0.out.drewN k).cell 1
    have c2 := (HK0.out.drewN k).cell 2
    simp only [List.getElem?_toArray, List.getElem?_cons_zero, List.getElem?_cons_succ] at c0 c1 c2
    clear hok
    by_cases hlt : j < kinds.length
    · have hr := HKD.out.resolve_left (show ¬ kinds.length = 0 by omega)
      obtain ⟨bK, oK, hA, hbk, hck⟩ := (hr.below HW.out).int_at hlt
      simp only at hA
      subst hA
      have HR := Lib.hid (hr.below HW.out)
      have hckq : (W0.drewN k).cell? ⟨bK, oK + j, none⟩ = some (.int .i64 (nth kinds j)) := hck
      have hj0 : (0 : Int) ≤ (j : Int) := Int.natCast_nonneg _
      have hj1 : (j : Int) < (kinds.length : Int) := by omega
      clear hr hck
      by_cases h1 : nth kinds j < 1
      · have HBAD := Lib.hid (bad_range hlt rfl (Or.inl h1))
        go_wp2
        go_ret
        exact ⟨ret_bool (by unfold validRi; simp only; rw [HBAD.out]; simp), below_drewN HW.out _⟩
      · by_cases h5 : 5 < nth kinds j
        · have HBAD := Lib.hid (bad_range hlt rfl (Or.inr h5))
          go_wp2
          go_ret
          exact ⟨ret_bool (by unfold validRi; simp only; rw [HBAD.out]; simp), below_drewN HW.out _⟩
        · have HKB : Hid (1 ≤ nth kinds j ∧ nth kinds j ≤ 5) := Lib.hid (by omega)
          go_wp2
          go_loopw [4] (fun x wi => ∃ (q k2 : Nat), q ≤ j ∧ x = .int .i64 q ∧ wi = W0.drewN k2 ∧ ∀ p < q, nth kinds p ≠ nth kinds j) (fun x _ => j - (intOf x).toNat)
          case atStart => exact ⟨0, k, Nat.zero_le _, rfl, rfl, fun p hp => absurd hp (by omega)⟩
          case round =>
            obtain ⟨q, k2, hq, rfl, rfl, hne⟩ := hrel
            have HNE := Lib.hid hne
            have HCJ : Hid (∀ k3, (W0.drewN k3).cell? ⟨bK, oK + j, none⟩ = some (.int .i64 (nth kinds j))) := Lib.hid fun k3 => hckq
            clear hne c0 c1 c2 hckq
            by_cases hqj : q < j
            · have hq0 : (0 : Int) ≤ (q : Int) := Int.natCast_nonneg _
              have hq1 : (q : Int) < (j : Int) := by omega
              have hq2 : (q : Int) < (kinds.length : Int) := by omega
              obtain ⟨bK', oK', hA', _, hcq⟩ := HR.out.int_at (show q < kinds.length by omega)
              try simp only at hA'
              injection hA' with hA'
              injection hA' with e1 e2
              subst e1 e2
              have HS := Lib.hid (show (W0.drewN k2).drew.cell? ⟨w.heap.size, 1, none⟩ = some (.slice (some ⟨bK, oK, none⟩) kinds.length kc) ∧ (W0.drewN k2).drew.cell? ⟨bK, oK + q, none⟩ = some (.int .i64 (nth kinds q)) ∧ (W0.drewN k2).drew.cell? ⟨bK, oK + j, none⟩ = some (.int .i64 (nth kinds j)) from
                ⟨(HK0.out.drewN k2).drew.cell 1, hcq, HCJ.out k2⟩)
              clear hcq
              cases heq : (nth kinds q == nth kinds j) with
              | true =>
                have HBAD := Lib.hid (kinds_dup hqj hlt (by simpa using heq))
                go_wp2
                refine wp_region_noPanic ?_
                refine wp_region_held_drew (S := fun wz => wz.cell? ⟨w.heap.size, 1, none⟩ = some (.slice (some ⟨bK, oK, none⟩) kinds.length kc) ∧ wz.cell? ⟨bK, oK + q, none⟩ = some (.int .i64 (nth kinds q)) ∧ wz.cell? ⟨bK, oK + j, none⟩ = some (.int .i64 (nth kinds j))) (by kernel_rfl) HS.out (fun hHeld => ?_)
                refine wpAnyH_take (i := 0) (oi := { dst := some 31, op := Op.fieldAddr 24 (Operand.tmp 1) 1, type := 0, pos := "law.go:84", after := #[], guard := none }) (v := ?_) rfl (by kernel_rfl) (by kernel_rfl) (by kernel_rfl) (fun _ _ _ h => h) (Or.inl ⟨by rfl, ?_⟩) hHeld ?_
                rotate_left 1
                · intro wz hSw
                  try dsimp only at hSw
                  go_simp
                  try with_reducible rfl
                try simp only [Act.put, List.setIfInBounds_toArray, List.set_cons_zero, List.set_cons_succ]
                refine wpAnyH_take (i := 1) (oi := { dst := some 32, op := Op.load 22 (Operand.tmp 31), type := 22, pos := "law.go:84", after := #[{ on := 0, ground := Ground.data }], guard := none }) (v := ?_) rfl (by kernel_rfl) (by kernel_rfl) (by kernel_rfl) (fun _ _ _ h => h) (Or.inl ⟨by rfl, ?_⟩) hHeld ?_
                rotate_left 1
                · intro wz hSw
                  try dsimp only at hSw
                  go_simp
                  try with_reducible rfl
                try simp only [Act.put, List.setIfInBounds_toArray, List.set_cons_zero, List.set_cons_succ]
                refine wpAnyH_take (i := 2) (oi := { dst := some 33, op := Op.move (Operand.tmp 4), type := 3, pos := "law.go:84", after := #[], guard := none }) (v := ?_) rfl (by kernel_rfl) (by kernel_rfl) (by kernel_rfl) (fun _ _ _ h => h) (Or.inl ⟨by rfl, ?_⟩) hHeld ?_
                rotate_left 1
                · intro wz hSw
                  try dsimp only at hSw
                  go_simp
                  try with_reducible rfl
                try simp only [Act.put, List.setIfInBounds_toArray, List.set_cons_zero, List.set_cons_succ]
                refine wpAnyH_take (i := 3) (oi := { dst := some 34, op := Op.indexAddr 22 (Operand.tmp 32) (Operand.tmp 33), type := 0, pos := "law.go:84", after := #[{ on := 1, ground := Ground.data }, { on := 2, ground := Ground.data }], guard := none }) (v := ?_) rfl (by kernel_rfl) (by kernel_rfl) (by kernel_rfl) (fun _ _ _ h => h) (Or.inl ⟨by rfl, ?_⟩) hHeld ?_
                rotate_left 1
                · intro wz hSw
                  try dsimp only at hSw
                  go_simp
                  try with_reducible rfl
                try simp only [Act.put, List.setIfInBounds_toArray, List.set_cons_zero, List.set_cons_succ]
                refine wpAnyH_take (i := 4) (oi := { dst := some 35, op := Op.load 25 (Operand.tmp 34), type := 25, pos := "law.go:84", after := #[{ on := 3, ground := Ground.data }], guard := none }) (v := ?_) rfl (by kernel_rfl) (by kernel_rfl) (by kernel_rfl) (fun _ _ _ h => h) (Or.inl ⟨by rfl, ?_⟩) hHeld ?_
                rotate_left 1
                · intro wz hSw
                  try dsimp only at hSw
                  go_simp
                  try with_reducible rfl
                try simp only [Act.put, List.setIfInBounds_toArray, List.set_cons_zero, List.set_cons_succ]
                refine wpAnyH_take (i := 5) (oi := { dst := some 36, op := Op.fieldAddr 24 (Operand.tmp 1) 1, type := 0, pos := "law.go:84", after := #[], guard := none }) (v := ?_) rfl (by kernel_rfl) (by kernel_rfl) (by kernel_rfl) (fun _ _ _ h => h) (Or.inl ⟨by rfl, ?_⟩) hHeld ?_
                rotate_left 1
                · intro wz hSw
                  try dsimp only at hSw
                  go_simp
                  try with_reducible rfl
                try simp only [Act.put, List.setIfInBounds_toArray, List.set_cons_zero, List.set_cons_succ]
                refine wpAnyH_take (i := 6) (oi := { dst := some 37, op := Op.load 22 (Operand.tmp 36), type := 22, pos := "law.go:84", after := #[{ on := 5, ground := Ground.data }], guard := none }) (v := ?_) rfl (by kernel_rfl) (by kernel_rfl) (by kernel_rfl) (fun _ _ _ h => h) (Or.inl ⟨by rfl, ?_⟩) hHeld ?_
                rotate_left 1
                · intro wz hSw
                  try dsimp only at hSw
                  go_simp
                  try with_reducible rfl
                try simp only [Act.put, List.setIfInBounds_toArray, List.set_cons_zero, List.set_cons_succ]
                refine wpAnyH_take (i := 7) (oi := { dst := some 38, op := Op.move (Operand.tmp 3), type := 3, pos := "law.go:84", after := #[], guard := none }) (v := ?_) rfl (by kernel_rfl) (by kernel_rfl) (by kernel_rfl) (fun _ _ _ h => h) (Or.inl ⟨by rfl, ?_⟩) hHeld ?_
                rotate_left 1
                · intro wz hSw
                  try dsimp only at hSw
                  go_simp
                  try with_reducible rfl
                try simp only [Act.put, List.setIfInBounds_toArray, List.set_cons_zero, List.set_cons_succ]
                refine wpAnyH_take (i := 8) (oi := { dst := some 39, op := Op.indexAddr 22 (Operand.tmp 37) (Operand.tmp 38), type := 0, pos := "law.go:84", after := #[{ on := 6, ground := Ground.data }, { on := 7, ground := Ground.data }], guard := none }) (v := ?_) rfl (by kernel_rfl) (by kernel_rfl) (by kernel_rfl) (fun _ _ _ h => h) (Or.inl ⟨by rfl, ?_⟩) hHeld ?_
                rotate_left 1
                · intro wz hSw
                  try dsimp only at hSw
                  go_simp
                  try with_reducible rfl
                try simp only [Act.put, List.setIfInBounds_toArray, List.set_cons_zero, List.set_cons_succ]
                refine wpAnyH_take (i := 9) (oi := { dst := some 40, op := Op.load 25 (Operand.tmp 39), type := 25, pos := "law.go:84", after := #[{ on := 8, ground := Ground.data }], guard := none }) (v := ?_) rfl (by kernel_rfl) (by kernel_rfl) (by kernel_rfl) (fun _ _ _ h => h) (Or.inl ⟨by rfl, ?_⟩) hHeld ?_
                rotate_left 1
                · intro wz hSw
                  try dsimp only at hSw
                  go_simp
                  try with_reducible rfl
                try simp only [Act.put, List.setIfInBounds_toArray, List.set_cons_zero, List.set_cons_succ]
                refine wpAnyH_take (i := 10) (oi := { dst := some 41, op := Op.binOp BinOp.eql 25 (Operand.tmp 35) (Operand.tmp 40) 25, type := 4, pos := "law.go:84", after := #[{ on := 4, ground := Ground.data }, { on := 9, ground := Ground.data }], guard := none }) (v := ?_) rfl (by kernel_rfl) (by kernel_rfl) (by kernel_rfl) (fun _ _ _ h => h) (Or.inl ⟨by rfl, ?_⟩) hHeld ?_
                rotate_left 1
                · intro wz hSw
                  try dsimp only at hSw
                  go_simp
                  try with_reducible rfl
                try simp only [Act.put, List.setIfInBounds_toArray, List.set_cons_zero, List.set_cons_succ]
                refine wpAnyH_done (by kernel_rfl) ?_ _
                refine NoPanic.normal ?_
                go_wp2
                go_ret
                exact ⟨ret_bool (by unfold validRi; simp only; rw [HBAD.out]; simp), (below_drewN HW.out k2).drew⟩
              | false =>
                have HNQ : Hid (nth kinds q ≠ nth kinds j) := Lib.hid (by simpa using heq)
                go_wp2
                refine wp_region_noPanic ?_
                refine wp_region_held_drew (S := fun wz => wz.cell? ⟨w.heap.size, 1, none⟩ = some (.slice (some ⟨bK, oK, none⟩) kinds.length kc) ∧ wz.cell? ⟨bK, oK + q, none⟩ = some (.int .i64 (nth kinds q)) ∧ wz.cell? ⟨bK, oK + j, none⟩ = some (.int .i64 (nth kinds j))) (by kernel_rfl) HS.out (fun hHeld => ?_)
                refine wpAnyH_take (i := 0) (oi := { dst := some 31, op := Op.fieldAddr 24 (Operand.tmp 1) 1, type := 0, pos := "law.go:84", after := #[], guard := none }) (v := ?_) rfl (by kernel_rfl) (by kernel_rfl) (by kernel_rfl) (fun _ _ _ h => h) (Or.inl ⟨by rfl, ?_⟩) hHeld ?_
                rotate_left 1
                · intro wz hSw
                  try dsimp only at hSw
                  go_simp
                  try with_reducible rfl
                try simp only [Act.put, List.setIfInBounds_toArray, List.set_cons_zero, List.set_cons_succ]
                refine wpAnyH_take (i := 1) (oi := { dst := some 32, op := Op.load 22 (Operand.tmp 31), type := 22, pos := "law.go:84", after := #[{ on := 0, ground := Ground.data }], guard := none }) (v := ?_) rfl (by kernel_rfl) (by kernel_rfl) (by kernel_rfl) (fun _ _ _ h => h) (Or.inl ⟨by rfl, ?_⟩) hHeld ?_
                rotate_left 1
                · intro wz hSw
                  try dsimp only at hSw
                  go_simp
                  try with_reducible rfl
                try simp only [Act.put, List.setIfInBounds_toArray, List.set_cons_zero, List.set_cons_succ]
                refine wpAnyH_take (i := 2) (oi := { dst := some 33, op := Op.move (Operand.tmp 4), type := 3, pos := "law.go:84", after := #[], guard := none }) (v := ?_) rfl (by kernel_rfl) (by kernel_rfl) (by kernel_rfl) (fun _ _ _ h => h) (Or.inl ⟨by rfl, ?_⟩) hHeld ?_
                rotate_left 1
                · intro wz hSw
                  try dsimp only at hSw
                  go_simp
                  try with_reducible rfl
                try simp only [Act.put, List.setIfInBounds_toArray, List.set_cons_zero, List.set_cons_succ]
                refine wpAnyH_take (i := 3) (oi := { dst := some 34, op := Op.indexAddr 22 (Operand.tmp 32) (Operand.tmp 33), type := 0, pos := "law.go:84", after := #[{ on := 1, ground := Ground.data }, { on := 2, ground := Ground.data }], guard := none }) (v := ?_) rfl (by kernel_rfl) (by kernel_rfl) (by kernel_rfl) (fun _ _ _ h => h) (Or.inl ⟨by rfl, ?_⟩) hHeld ?_
                rotate_left 1
                · intro wz hSw
                  try dsimp only at hSw
                  go_simp
                  try with_reducible rfl
                try simp only [Act.put, List.setIfInBounds_toArray, List.set_cons_zero, List.set_cons_succ]
                refine wpAnyH_take (i := 4) (oi := { dst := some 35, op := Op.load 25 (Operand.tmp 34), type := 25, pos := "law.go:84", after := #[{ on := 3, ground := Ground.data }], guard := none }) (v := ?_) rfl (by kernel_rfl) (by kernel_rfl) (by kernel_rfl) (fun _ _ _ h => h) (Or.inl ⟨by rfl, ?_⟩) hHeld ?_
                rotate_left 1
                · intro wz hSw
                  try dsimp only at hSw
                  go_simp
                  try with_reducible rfl
                try simp only [Act.put, List.setIfInBounds_toArray, List.set_cons_zero, List.set_cons_succ]
                refine wpAnyH_take (i := 5) (oi := { dst := some 36, op := Op.fieldAddr 24 (Operand.tmp 1) 1, type := 0, pos := "law.go:84", after := #[], guard := none }) (v := ?_) rfl (by kernel_rfl) (by kernel_rfl) (by kernel_rfl) (fun _ _ _ h => h) (Or.inl ⟨by rfl, ?_⟩) hHeld ?_
                rotate_left 1
                · intro wz hSw
                  try dsimp only at hSw
                  go_simp
                  try with_reducible rfl
                try simp only [Act.put, List.setIfInBounds_toArray, List.set_cons_zero, List.set_cons_succ]
                refine wpAnyH_take (i := 6) (oi := { dst := some 37, op := Op.load 22 (Operand.tmp 36), type := 22, pos := "law.go:84", after := #[{ on := 5, ground := Ground.data }], guard := none }) (v := ?_) rfl (by kernel_rfl) (by kernel_rfl) (by kernel_rfl) (fun _ _ _ h => h) (Or.inl ⟨by rfl, ?_⟩) hHeld ?_
                rotate_left 1
                · intro wz hSw
                  try dsimp only at hSw
                  go_simp
                  try with_reducible rfl
                try simp only [Act.put, List.setIfInBounds_toArray, List.set_cons_zero, List.set_cons_succ]
                refine wpAnyH_take (i := 7) (oi := { dst := some 38, op := Op.move (Operand.tmp 3), type := 3, pos := "law.go:84", after := #[], guard := none }) (v := ?_) rfl (by kernel_rfl) (by kernel_rfl) (by kernel_rfl) (fun _ _ _ h => h) (Or.inl ⟨by rfl, ?_⟩) hHeld ?_
                rotate_left 1
                · intro wz hSw
                  try dsimp only at hSw
                  go_simp
                  try with_reducible rfl
                try simp only [Act.put, List.setIfInBounds_toArray, List.set_cons_zero, List.set_cons_succ]
                refine wpAnyH_take (i := 8) (oi := { dst := some 39, op := Op.indexAddr 22 (Operand.tmp 37) (Operand.tmp 38), type := 0, pos := "law.go:84", after := #[{ on := 6, ground := Ground.data }, { on := 7, ground := Ground.data }], guard := none }) (v := ?_) rfl (by kernel_rfl) (by kernel_rfl) (by kernel_rfl) (fun _ _ _ h => h) (Or.inl ⟨by rfl, ?_⟩) hHeld ?_
                rotate_left 1
                · intro wz hSw
                  try dsimp only at hSw
                  go_simp
                  try with_reducible rfl
                try simp only [Act.put, List.setIfInBounds_toArray, List.set_cons_zero, List.set_cons_succ]
                refine wpAnyH_take (i := 9) (oi := { dst := some 40, op := Op.load 25 (Operand.tmp 39), type := 25, pos := "law.go:84", after := #[{ on := 8, ground := Ground.data }], guard := none }) (v := ?_) rfl (by kernel_rfl) (by kernel_rfl) (by kernel_rfl) (fun _ _ _ h => h) (Or.inl ⟨by rfl, ?_⟩) hHeld ?_
                rotate_left 1
                · intro wz hSw
                  try dsimp only at hSw
                  go_simp
                  try with_reducible rfl
                try simp only [Act.put, List.setIfInBounds_toArray, List.set_cons_zero, List.set_cons_succ]
                refine wpAnyH_take (i := 10) (oi := { dst := some 41, op := Op.binOp BinOp.eql 25 (Operand.tmp 35) (Operand.tmp 40) 25, type := 4, pos := "law.go:84", after := #[{ on := 4, ground := Ground.data }, { on := 9, ground := Ground.data }], guard := none }) (v := ?_) rfl (by kernel_rfl) (by kernel_rfl) (by kernel_rfl) (fun _ _ _ h => h) (Or.inl ⟨by rfl, ?_⟩) hHeld ?_
                rotate_left 1
                · intro wz hSw
                  try dsimp only at hSw
                  go_simp
                  try with_reducible rfl
                try simp only [Act.put, List.setIfInBounds_toArray, List.set_cons_zero, List.set_cons_succ]
                refine wpAnyH_done (by kernel_rfl) ?_ _
                refine NoPanic.normal ?_
                go_wp2
                go_roundw
                case rel =>
                  refine ⟨q + 1, k2 + 1, by omega, by go_num, rfl, fun p hp => ?_⟩
                  by_cases e : p = q
                  · subst e; exact HNQ.out
                  · exact HNE.out p (by omega)
                case measure => simp [intOf]; omega
            · have hd : decide ((q : Int) < (j : Int)) = false := by simp; omega
              have hqe : Hid (q = j) := Lib.hid (by omega)
              go_wp2
              go_roundw
              case rel => exact ⟨j + 1, k2, by omega, by go_num, rfl, kinds_step hlt HOK.out HKB.out.1 HKB.out.2 (fun p hp => HNE.out p (by rw [hqe.out]; exact hp))⟩
              case measure => simp [intOf]; omega
    · have hd : decide ((j : Int) < (kinds.length : Int)) = false := by simp; omega
      have HK : Hid (kindsOk kinds = true) := Lib.hid (by have h1 := HOK.out; rw [List.take_of_length_le (by omega)] at h1; exact h1)
      by_cases h1 : p.size ≤ 250
      · have hd1 : (p.size : Int) ≤ 250 := by omega
        by_cases h2 : 1 ≤ room
        · go_wp2
          go_ret
          exact ⟨ret_bool (by unfold validRi; simp only; rw [HK.out]; simp [h1, h2]), below_drewN HW.out _⟩
        · go_wp2
          go_ret
          exact ⟨ret_bool (by unfold validRi; simp only; rw [HK.out]; simp [h1]; intro; omega), below_drewN HW.out _⟩
      · have hd1 : decide ((p.size : Int) ≤ 250) = false := by simp; omega
        go_wp2
        go_ret
        exact ⟨ret_bool (by unfold validRi; simp only; rw [HK.out]; simp [h1]), below_drewN HW.out _⟩
end Go.Proofs.Ytfimgkjdfjlkhaa
