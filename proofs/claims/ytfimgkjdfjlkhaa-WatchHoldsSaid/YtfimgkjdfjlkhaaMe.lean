/- 'Add' of a hub that is there, as the code does it. At most a million kinds. -/
import Derived.Test.YtfimgkjdfjlkhaaMd
namespace Go.Proofs.Ytfimgkjdfjlkhaa
open Go.RowKit Go.Deep Go.Maps

theorem KindsAt.below {w w1 : World} {r : Ri} (h : KindsAt w r) (hb : Below w.heap.size w w1) : KindsAt w1 r := h.imp id (fun h => (h.below hb).more hb.size)
def Ri.cells (r : Ri) : Array Value := #[.string r.pre, .slice r.kA r.kinds.length r.kc, .int .i64 r.room, .bool r.oldest]
set_option maxRecDepth 100000 in
set_option maxHeartbeats 2000000 in
theorem add_bad (w : World) (hb : Nat) (r : Ri) (hk : KindsAt w r) (hn : r.kinds.length ≤ 1000000) (hv : validRi r = false) :
    Calls Try.prog 17 #[.pointer (some ⟨hb, 0, none⟩), r.v] w fun e w' => e = .returned (.tuple #[.int .i64 0, .int .i64 2]) ∧ Below w.heap.size w w' := by
  have hW := (Below.refl _ w).alloc (Nat.le_refl _) (.cells r.cells 24)
  have hV := valid_rule r (w.alloc (.cells r.cells 24)) (hk.below hW) hn
  rw [hv] at hV
  have HW := Lib.hid hW
  have HV := Lib.hid hV
  clear hk hn hv hW hV
  obtain ⟨p, kinds, room, oldest, kA, kc⟩ := r
  simp only [Ri.v, Ri.cells] at HV HW ⊢
  go_enter Try.func17, Try.ntmps17
  go_wp2_with fail
  refine HV.out.mono ?_
  rintro e w1 ⟨rfl, hb1⟩
  have HB := Lib.hid (HW.out.trans (hb1.mono HW.out.size))
  clear hb1
  go_wp2
  go_ret2
  exact ⟨rfl, HB.out⟩
set_option maxRecDepth 100000 in
set_option maxHeartbeats 2000000 in
theorem add_full (w : World) (base hb n : Nat) (m : Option Nat) (l : List Sl) (r : Ri) (h : HubAt w base hb m n l) (hk : KindsAt w r) (hn : r.kinds.length ≤ 1000000) (hv : validRi r = true) (hl : 64 ≤ l.length) (hl2 : l.length ≤ 1000) :
    Calls Try.prog 17 #[.pointer (some ⟨hb, 0, none⟩), r.v] w fun e w' => e = .returned (.tuple #[.int .i64 0, .int .i64 7]) ∧ Below w.heap.size w w' := by
  have hW := (Below.refl _ w).alloc (Nat.le_refl _) (.cells r.cells 24)
  have hV := valid_rule r (w.alloc (.cells r.cells 24)) (hk.below hW) hn
  rw [hv] at hV
  obtain ⟨b, rfl⟩ : ∃ b, m = some b := by
    cases m with
    | none => rw [h.nomap rfl] at hl; simp at hl
    | some b => exact ⟨b, rfl⟩
  have HW := Lib.hid hW
  have HV := Lib.hid hV
  have HH := Lib.hid h
  have hl1 : (64 : Int) ≤ (l.length : Int) := by omega
  clear hk hn hv hW hV h
  obtain ⟨p, kinds, room, oldest, kA, kc⟩ := r
  simp only [Ri.v, Ri.cells] at HV HW ⊢
  go_enter Try.func17, Try.ntmps17
  go_wp2_with fail
  refine HV.out.mono ?_
  rintro e w1 ⟨rfl, hb1⟩
  have HB := Lib.hid (HW.out.trans (hb1.mono HW.out.size))
  have hh := HH.out.below HB.out
  have c0 := hh.blk.cell 0
  have hlen := (hh.bmap b rfl).1.len 3
  simp only [List.getElem?_toArray, List.getElem?_cons_zero] at c0
  clear hb1 hh
  go_wp2
  go_ret2
  exact ⟨rfl, HB.out⟩
theorem Chg.of_grown {w w1 : World} {b : Nat} (h : w.grownBy w1 (some b)) : Chg [b] w w1 := ⟨h.os, h.tape, h.output, h.size, fun k hk hn => h.block k hk (fun e => hn (by injection e with e; subst e; simp))⟩
theorem valid_room {r : Ri} (hv : validRi r = true) : 1 ≤ r.room ∧ r.room ≤ 1000 := by
  unfold validRi at hv
  rw [Bool.and_eq_true, Bool.and_eq_true, Bool.and_eq_true, decide_eq_true_iff, decide_eq_true_iff, decide_eq_true_iff] at hv
  exact ⟨hv.2.1.2, hv.2.2⟩
def addTo (w : World) (base hb n : Nat) (m : Option Nat) (l : List Sl) (r : Ri) (e : Ending) (w' : World) : Prop :=
  ∃ (k : Nat) (b g c n' : Nat) (A : Option Addr), e = .returned (.tuple #[.int .i64 k, .int .i64 0]) ∧ IsFree l k ∧ k < 64 ∧ HubTo w w' base hb m l (some b) n' (l ++ [newSl k g r A c]) ∧ n' ≤ n + 1
set_option maxRecDepth 100000 in
set_option maxHeartbeats 2000000 in
theorem add_some (w : World) (base hb n b : Nat) (l : List Sl) (r : Ri) (h : HubAt w base hb (some b) n l) (hk : KindsAt w r) (hn : r.kinds.length ≤ 1000000) (hv : validRi r = true) (hl : l.length < 64) (hbase : base ≤ w.heap.size) (hnn : n ≤ 1000000) (h0 : r.kA = none → r.kinds.length = 0 ∧ r.kc = 0) :
    Calls Try.prog 17 #[.pointer (some ⟨hb, 0, none⟩), r.v] w (addTo w base hb n (some b) l r) := by
  have hW := (Below.refl _ w).alloc (Nat.le_refl _) (.cells r.cells 24)
  have hV := valid_rule r (w.alloc (.cells r.cells 24)) (hk.below hW) hn
  rw [hv] at hV
  have HBX := Lib.hid (Blk.new w 24 r.cells)
  have HW := Lib.hid hW
  have HV := Lib.hid hV
  have HH := Lib.hid h
  have HK := Lib.hid hk
  have H0 := Lib.hid h0
  have HVV := Lib.hid hv
  have hl1 : (l.length : Int) < (64 : Int) := by omega
  have hdl : decide ((64 : Int) ≤ (l.length : Int)) = false := by simp; omega
  have hq : ∀ (w : World) (r : Option Nat), (binOp .eql 34 (.map r) (.map none)).run Try.prog w = .ok (.bool r.isNone) w := fun w r => run_eql_map_nil w _ _ _ r Try.underlying34
  clear hk hv hW hV h h0
  obtain ⟨p, kinds, room, oldest, kA, kc⟩ := r
  simp only [Ri.v, Ri.cells] at HV HW HBX ⊢
  go_enter Try.func17, Try.ntmps17
  go_wp2_with fail
  refine HV.out.mono ?_
  rintro e w1 ⟨rfl, hb1⟩
  have HB := Lib.hid (HW.out.trans (hb1.mono HW.out.size))
  have HBX1 := Lib.hid (HBX.out.below hb1 HBX.out.lt)
  have HH1 := Lib.hid (HH.out.below HB.out)
  have c0 := HH1.out.blk.cell 0
  have hlen := (HH1.out.bmap b rfl).1.len 3
  simp only [List.getElem?_toArray, List.getElem?_cons_zero] at c0
  clear hb1
  go_wp2
  go_loopw [6] (fun x wr => ∃ k : Nat, k ≤ l.length ∧ x = .int .i64 k ∧ wr = w1 ∧ ∀ j < k, ∃ s ∈ l, s.id = (j : Int)) (fun x _ => 64 - (intOf x).toNat)
  case atStart => exact ⟨0, Nat.zero_le _, rfl, rfl, fun j hj => absurd hj (by omega)⟩
  case round =>
    obtain ⟨k, hk, rfl, rfl, hocc⟩ := hrel
    have hlk := (HH1.out.bmap b rfl).1.look (k := (k : Int)) (wf_id (by omega) (by omega))
    cases hf : slotF l (k : Int) with
    | some g =>
      rw [hf] at hlk
      unfold ptrV at hlk
      have hocc1 : ∀ j < k + 1, ∃ s ∈ l, s.id = (j : Int) := fun j hj => by
        by_cases e : j = k
        · subst e
          obtain ⟨s, hs, e2, _⟩ := slotF_some hf
          exact ⟨s, hs, e2⟩
        · exact hocc j (by omega)
      have hle := occ_le hocc1
      have HOC := Lib.hid hocc1
      clear hocc hocc1 hf
      go_wp2
      go_roundw
      case rel => exact ⟨k + 1, hle, by go_num, trivial, HOC.out⟩
      case measure => simp [intOf]; omega
    | none =>
      rw [hf] at hlk
      unfold ptrV at hlk
      have HFR : Hid (IsFree l k) := Lib.hid ⟨fun s hs => slotF_none.1 hf s hs, hocc⟩
      have HFN := Lib.hid hf
      have HLK := Lib.hid hlk
      have a1 := HBX1.out.cell 1
      simp only [List.getElem?_toArray, List.getElem?_cons_zero, List.getElem?_cons_succ] at a1
      have hkr : Reads wr wr.heap.size 1 kA kinds.length (ints .i64 kinds) := by
        rcases HK.out.below HB.out with e | e
        · have : kinds = [] := List.eq_nil_of_length_eq_zero e
          subst this
          exact ⟨rfl, fun hp => absurd hp (by simp)⟩
        · exact e
      have HKC := Lib.hid (kclone_any kA kc kinds wr hkr hn H0.out)
      clear hocc hf hkr
      go_wp2_with fail
      refine HKC.out.mono ?_
      rintro e w2 ⟨A', c', rfl, hown, hb2⟩
      have HB2 := Lib.hid (HB.out.trans (hb2.mono HB.out.size))
      have HBX2 := Lib.hid (HBX1.out.below hb2 HBX1.out.lt)
      have hh2 := HH1.out.below hb2
      have d1 := HBX2.out.cell 1
      have f1 := HBX2.out.frozen 1
      simp only [List.getElem?_toArray, List.getElem?_cons_zero, List.getElem?_cons_succ] at d1
      have HOW := Lib.hid hown
      have HH2 := Lib.hid hh2
      clear hb2 hown hh2 c0 hlen hlk a1
      go_wp2
      have HC3 := Lib.hid (((Chg.refl [w.heap.size] w2)).setCell (p := ⟨w.heap.size, 1, none⟩) (Or.inl (by simp)) (.slice A' kinds.length c'))
      have hbx3 := HBX2.out.set_ 1 (.slice A' kinds.length c')
      have hnh : w.heap.size ∉ hubO hb (some b) l := fun e => by have := HH.out.lt _ e; omega
      have hh3 := HH2.out.chg HC3.out (fun k hk => by simp only [List.mem_singleton] at hk; subst hk; exact hnh) (fun k hk => by simp only [List.mem_singleton] at hk; subst hk; exact NoRow.blk HBX2.out (by decide) (by decide))
      have HB3 := Lib.hid (HB2.out.setCell (p := ⟨w.heap.size, 1, none⟩) (Nat.le_refl _) (.slice A' kinds.length c'))
      have hown3 : (w2.setCell ⟨w.heap.size, 1, none⟩ (.slice A' kinds.length c')).ownsRow wr.heap.size 25 1 (.slice A' kinds.length c') kinds.length (ints .i64 kinds) :=
        HC3.out.own HOW.out (fun k hk _ => by simp only [List.mem_singleton] at hk; subst hk; exact ⟨_, _, HBX2.out, by decide⟩)
      have HO3 := Lib.hid hown3
      have HH3 := Lib.hid hh3
      have HBX3 := Lib.hid hbx3
      clear d1 f1 hbx3 hown3 hnh hh3
      generalize w2.setCell ⟨w.heap.size, 1, none⟩ (.slice A' kinds.length c') = W3 at *
      have c0 := HH3.out.blk.cell 0
      have a0 := HBX3.out.cell 0
      have a1 := HBX3.out.cell 1
      have a2 := HBX3.out.cell 2
      have a3 := HBX3.out.cell 3
      simp only [List.setIfInBounds_toArray, List.set_cons_zero, List.set_cons_succ, List.getElem?_toArray, List.getElem?_cons_zero, List.getElem?_cons_succ] at c0 a0 a1 a2 a3
      have hmX : MapIs (W3.alloc (.cells #[.string p, .slice A' kinds.length c', .int .i64 room, .bool oldest, .slice none 0 0, .int .i64 0, .int .i64 0, .int .i64 0] 76)).drew b n (slotF l) l.length :=
        (HH3.out.bmap b rfl).1.at_ (Below.heap_alloc _ _ _ (HH3.out.bmap b rfl).1.lt)
      obtain ⟨w9, hrun, hm9, hg9⟩ := hmX.put (k := (k : Int)) (wf_id (by omega) (by omega)) (by unfold maxLen; omega) HFN.out W3.heap.size
      have HM9 := Lib.hid hm9
      have HG9 := Lib.hid hg9
      clear hmX hm9 hg9
      have ne0 := World.new_ne W3 _ c0
      have ne1 := World.new_ne W3 _ a0
      have lt0 := HH3.out.blk.lt
      have lt1 := HBX3.out.lt
      go_wp2
      go_region
      all_goals
        go_wp2
        go_ret2
        have hroom := valid_room HVV.out
        simp only at hroom
        refine ⟨k, b, W3.heap.size, c', n + 1, A', rfl, HFR.out, by omega, ?_, Nat.le_refl _⟩
        have hX : Chg [] w (W3.alloc (.cells #[.string p, .slice A' kinds.length c', .int .i64 room, .bool oldest, .slice none 0 0, .int .i64 0, .int .i64 0, .int .i64 0] 76)).drew := ((Chg.below HB3.out []).alloc _).drew
        have hC9 := Chg.of_grown HG9.out
        have hbX := Blk.drew (Blk.new W3 76 #[.string p, .slice A' kinds.length c', .int .i64 room, .bool oldest, .slice none 0 0, .int .i64 0, .int .i64 0, .int .i64 0])
        have hbl : b < W3.heap.size := (HH3.out.bmap b rfl).1.lt
        refine HH.out.added ((hX.mono (fun x hx => by cases hx)).trans hC9 (fun x hx => Or.inl hx)) HB3.out.size hbase ?_ HM9.out HFR.out (by omega) HVV.out ?_
        · have h1 := hC9.blk hbX (by simp only [List.mem_singleton]; omega)
          have e : (newSl (k : Int) W3.heap.size ⟨p, kinds, room, oldest, kA, kc⟩ A' c').t.cells = #[.string p, .slice A' kinds.length c', .int .i64 room, .bool oldest, .slice none 0 0, .int .i64 0, .int .i64 0, .int .i64 0] := by
            simp [newSl, Wt.cells, Wt.ring]
            omega
          rw [e]
          exact h1
        · refine own_base (own_same (HO3.out.alloc (.cells #[.string p, .slice A' kinds.length c', .int .i64 room, .bool oldest, .slice none 0 0, .int .i64 0, .int .i64 0, .int .i64 0] 76)) (fun g' hg' => ?_)) (Nat.le_trans hbase HB.out.size)
          have hl9 := (HO3.out.lt g' hg').2
          refine (HG9.out.block g' (by show g' < (W3.alloc (.cells #[.string p, .slice A' kinds.length c', .int .i64 room, .bool oldest, .slice none 0 0, .int .i64 0, .int .i64 0, .int .i64 0] 76)).heap.size; simp; omega) (fun e => ?_)).trans rfl
          injection e with e
          subst e
          obtain ⟨cs, hh⟩ := own_row HO3.out hg'
          exact (NoRow.map (HH3.out.bmap g' rfl).1 cs).2 hh
end Go.Proofs.Ytfimgkjdfjlkhaa
