/- 'grow' of a watcher whose ring is not at its greatest. -/
import Derived.Test.YtfimgkjdfjlkhaaHg
import Derived.Deep.CutRange
import Derived.Deep.DeepCutAuto
namespace Go.Proofs.Ytfimgkjdfjlkhaa
open Go.RowKit Go.Deep

theorem info30 : (Try.prog.info? 30).map (fun i => (i.zero, i.size, i.bytes)) = some (some (.agg #[.int .i64 0, .string ⟨#[]⟩, .slice none 0 0, .int .u64 0, .int .u64 0, .int .u64 0]), 6, 72) := by kernel_rfl
/-- A watcher is not touched by what is done to other blocks. -/
theorem WtAt.chg {w w1 : World} {base g : Nat} {t : Wt} {O : List Nat} (ht : WtAt w base g t) (h : Chg O w w1) (hg : g ∉ O) (hr : t.rn ≠ 0 → t.rg ∉ O) (hO : ∀ k ∈ O, k < w.heap.size → ∃ cs ty, Blk w k ty cs ∧ ty ≠ 5 ∧ ty ≠ 25) : WtAt w1 base g t :=
  { ht with
    blk := h.blk ht.blk hg
    ring := fun hn => by
      obtain ⟨cs, hb, hi⟩ := ht.ring hn
      exact ⟨cs, h.blk hb (hr hn), hi⟩
    own := fun x hx => h.evOwn (ht.own x hx) (fun k hk hl => by obtain ⟨cs, ty, a, b, _⟩ := hO k hk hl; exact ⟨cs, ty, a, b⟩)
    kinds := ht.kinds.imp id (fun hk => h.own hk (fun k hk hl => by obtain ⟨cs, ty, a, _, b⟩ := hO k hk hl; exact ⟨cs, ty, a, b⟩)) }
theorem WtAt.drewN {w : World} {base g : Nat} {t : Wt} (ht : WtAt w base g t) (q : Nat) : WtAt (w.drewN q) base g t :=
  ht.chg (O := []) ((Chg.refl [] w).drewN q) (by simp) (by simp) (by simp)
theorem WtAt.drew {w : World} {base g : Nat} {t : Wt} (ht : WtAt w base g t) : WtAt w.drew base g t :=
  ht.chg (O := []) ((Chg.refl [] w).drew) (by simp) (by simp) (by simp)
/-- The greater ring, as far as it is filled. -/
def Filled (cs : Array Value) (n j : Nat) (wait : List Hv) : Prop := cs.size = n * 6 ∧ ∀ i q, i < j → q < 6 → cs[i * 6 + q]? = (hnth wait i).cells[q]?
theorem Filled.step {cs : Array Value} {n j : Nat} {wait : List Hv} {h : Hv} (hf : Filled cs n j wait) (hj : j < n) (hh : hnth wait j = h) : Filled (put6 cs j (.int .i64 h.e.kind) (.string h.e.key) (.slice h.A h.e.val.length h.c) (.int .u64 h.e.birth) (.int .u64 h.e.due) (.int .u64 h.e.at_)) n (j + 1) wait := by
  refine ⟨by rw [put6_size]; exact hf.1, fun i q hi hq => ?_⟩
  rw [put6_at _ _ _ _ _ _ _ _ hf.1 hj hq]
  by_cases e : i = j
  · subst e
    rw [if_pos rfl, hh]
    simp [Hv.cells]
  · rw [if_neg e, hf.2 i q (by omega) hq]
theorem Filled.ring {cs : Array Value} {n j : Nat} {wait : List Hv} (hf : Filled cs n j wait) (hj : wait.length ≤ j) (hn : wait.length ≤ n) : RingIs cs n 0 wait := by
  refine ⟨hf.1, fun i q hi hq => ?_⟩
  rw [Nat.zero_add, Nat.mod_eq_of_lt (by omega), hf.2 i q (by omega) hq]
def growTo (w : World) (base g : Nat) (t : Wt) (e : Ending) (w' : World) : Prop :=
  e = .returned (.tuple #[]) ∧ Chg [g, t.rg] w w' ∧ ∃ t' : Wt, WtAt w' base g t' ∧ t'.rl = t.rl ∧ t'.wait = t.wait ∧ t'.lost = t.lost ∧ t'.wait.length < t'.rn ∧ (t'.rg = t.rg ∧ t'.rn = t.rn ∨ w.heap.size ≤ t'.rg)
set_option maxRecDepth 100000 in
set_option maxHeartbeats 2000000 in
theorem grow_no (w : World) (base g : Nat) (t : Wt) (ht : WtAt w base g t) (hw : t.wait.length < t.rn) :
    Calls Try.prog 54 #[.pointer (some ⟨g, 0, none⟩)] w (growTo w base g t) := by
  have hrn : t.rn ≠ 0 := by omega
  have hblk := ht.blk
  unfold Wt.cells Wt.ring at hblk
  simp only [if_neg hrn] at hblk
  have c4 := hblk.cell 4
  have c6 := hblk.cell 6
  simp only [List.getElem?_toArray, List.getElem?_cons_zero, List.getElem?_cons_succ] at c4 c6
  have HT := Lib.hid ht
  have HW := Lib.hid hw
  have h1 : (t.wait.length : Int) < (t.rn : Int) := by omega
  clear hblk ht
  go_enter Try.func54, Try.ntmps54
  go_wp2
  go_region
  all_goals
    go_wp2
    refine bodyPost_ret (v := .tuple #[]) (by simp [results, Try.results54, go_sem]) rfl ⟨rfl, (Chg.refl _ w).drew, t, ?_, rfl, rfl, rfl, HW.out, Or.inl ⟨rfl, rfl⟩⟩
    exact HT.out.drew
set_option maxRecDepth 100000 in
set_option maxHeartbeats 2000000 in
theorem grow_yes (w : World) (base g : Nat) (t : Wt) (ht : WtAt w base g t) (hw : t.wait.length = t.rn) (hr : t.rn < t.rl.room) :
    Calls Try.prog 54 #[.pointer (some ⟨g, 0, none⟩)] w (growTo w base g t) := by
  obtain ⟨rl, rg, rn, f, wait, lost⟩ := t
  simp only at hw hr
  have hr1000 : rl.room ≤ 1000 := ht.room2
  obtain ⟨n2, hn2⟩ : ∃ n2 : Nat, min rl.room (2 * rn + 4) = n2 := ⟨_, rfl⟩
  have hn2a : rn < n2 := by omega
  have hn2b : n2 ≤ rl.room := by omega
  have hblk := ht.blk
  unfold Wt.cells at hblk
  simp only at hblk
  have hring : ∃ A, (Wt.ring ⟨rl, rg, rn, f, wait, lost⟩) = .slice A rn rn := by
    unfold Wt.ring
    by_cases e : rn = 0
    · simp only [e, if_true]; exact ⟨none, rfl⟩
    · simp only [if_neg e]; exact ⟨_, rfl⟩
  obtain ⟨A, hA⟩ := hring
  rw [hA] at hblk
  have c2 := hblk.cell 2
  have c4 := hblk.cell 4
  have c6 := hblk.cell 6
  simp only [List.getElem?_toArray, List.getElem?_cons_zero, List.getElem?_cons_succ] at c2 c4 c6
  rw [hw] at c6
  have hnl : ¬ (rn : Int) < (rn : Int) := by omega
  have hmul : IntKind.i64.wrap (2 * (rn : Int)) = 2 * (rn : Int) := IntWalk.i64_in _ (by omega)
  have hadd : IntKind.i64.wrap (2 * (rn : Int) + 4) = 2 * (rn : Int) + 4 := IntWalk.i64_in _ (by omega)
  obtain ⟨i0, hi, hz0, hz1, hz2⟩ := info_parts info30
  have hmk : ∀ W : World, (Instr.makeSlice 38 (.int .i64 (n2 : Int)) (.int .i64 (n2 : Int))).run Try.prog W = .ok (.slice (some ⟨W.heap.size, 0, none⟩) n2 n2) (W.alloc (.cells (madeCells #[.int .i64 0, .string ⟨#[]⟩, .slice none 0 0, .int .u64 0, .int .u64 0, .int .u64 0] (n2 * 6)) 30)) := fun W => by
    have := run_make_rowN (P := Try.prog) 38 30 i0 _ Try.underlying38 hi hz0 .i64 .i64 n2 n2 (Nat.le_refl _) (by rw [hz2]; omega) (by omega) W
    rw [hz1] at this
    exact this
  have HT := Lib.hid ht
  have HBL := Lib.hid hblk
  clear hi hz0 hz1 hz2 hblk ht
  go_enter Try.func54, Try.ntmps54
  go_wp2
  go_region
  all_goals
    go_wp2_with fail
    go_cut [2] (fun v wx => v = .slice (some ⟨w.heap.size, 0, none⟩) n2 n2 ∧ Chg [] w wx ∧ Blk wx w.heap.size 30 (madeCells #[.int .i64 0, .string ⟨#[]⟩, .slice none 0 0, .int .u64 0, .int .u64 0, .int .u64 0] (n2 * 6)))
    case first =>
      by_cases hmin : rl.room < 2 * rn + 4
      · have hmin' : (rl.room : Int) < 2 * (rn : Int) + 4 := by omega
        have hn : rl.room = n2 := by omega
        have hni : (rl.room : Int) = (n2 : Int) := by omega
        clear hn2
        go_region
        all_goals
          go_wp2_with fail
          go_meet
          exact ⟨rfl, ((Chg.refl [] w).alloc _).drew.drew, (Blk.new w 30 _).drew.drew⟩
      · have hn : 2 * (rn : Int) + 4 = (n2 : Int) := by omega
        rw [hn] at hadd
        clear hn2
        by_cases hq : n2 < rl.room
        · have hq' : (n2 : Int) < (rl.room : Int) := by omega
          go_region
          all_goals
            go_wp2_with fail
            go_meet
            exact ⟨rfl, ((Chg.refl [] w).alloc _).drew.drew, (Blk.new w 30 _).drew.drew⟩
        · have hn' : rl.room = n2 := by omega
          have hni : (rl.room : Int) = (n2 : Int) := by omega
          go_region
          all_goals
            go_wp2_with fail
            go_meet
            exact ⟨rfl, ((Chg.refl [] w).alloc _).drew.drew, (Blk.new w 30 _).drew.drew⟩
    case rest =>
      obtain ⟨rfl, hch, hnb⟩ := hcut
      have hk := hch.blk HBL.out (by simp)
      have e6 := hk.cell 6
      simp only [List.getElem?_toArray, List.getElem?_cons_zero, List.getElem?_cons_succ] at e6
      rw [hw] at e6
      have HCH := Lib.hid hch
      have HNB := Lib.hid hnb
      have HFI : Hid (Filled (madeCells #[.int .i64 0, .string ⟨#[]⟩, .slice none 0 0, .int .u64 0, .int .u64 0, .int .u64 0] (n2 * 6)) n2 0 wait) := Lib.hid ⟨size_madeCells _ _, fun i q hi => absurd hi (by omega)⟩
      clear hk hch hnb c2 c4 c6 hmk hmul hadd
      go_wp2
      go_loopw [3, 32] (fun _ x wr => ∃ (j : Nat) (cs : Array Value), j ≤ rn ∧ x = .int .i64 j ∧ Chg [] w wr ∧ Blk wr w.heap.size 30 cs ∧ Filled cs n2 j wait) (fun _ x _ => rn - (intOf x).toNat)
      case atStart => exact ⟨0, _, Nat.zero_le _, rfl, HCH.out, HNB.out, HFI.out⟩
      case round =>
        obtain ⟨j, cs, hj, rfl, hc, hb, hfi⟩ := hrel
        have hk := hc.blk HBL.out (by simp)
        have c4 := hk.cell 4
        have c5 := hk.cell 5
        simp only [List.getElem?_toArray, List.getElem?_cons_zero, List.getElem?_cons_succ] at c4 c5
        have HC := Lib.hid hc
        have HB := Lib.hid hb
        have HF := Lib.hid hfi
        by_cases hlt : j < rn
        · have hrn : rn ≠ 0 := by omega
          obtain ⟨cr, hbr, hring⟩ := HT.out.ring hrn
          have hbr' := hc.blk hbr (by simp)
          have hA' : A = some ⟨rg, 0, none⟩ := by
            unfold Wt.ring at hA
            simp only [if_neg hrn] at hA
            injection hA with e _ _
            exact e.symm
          subst hA'
          have hf : f < rn := HT.out.hf hrn
          obtain ⟨p, hp⟩ : ∃ p : Nat, (f + j) % rn = p := ⟨_, rfl⟩
          have hpl : p < rn := by rw [← hp]; exact Nat.mod_lt _ (by omega)
          have hat : ∀ q, q < 6 → wr.cell? ⟨rg, p * 6 + q, none⟩ = (hnth wait j).cells[q]? := fun q hq => by
            have e := hring.2 j q (by show j < wait.length; omega) hq
            simp only at e
            rw [hp] at e
            exact (hbr'.cell _).trans e
          obtain ⟨h, hh⟩ : ∃ h, hnth wait j = h := ⟨_, rfl⟩
          rw [hh] at hat
          have d0 := hat 0 (by omega)
          have d1 := hat 1 (by omega)
          have d2 := hat 2 (by omega)
          have d3 := hat 3 (by omega)
          have d4 := hat 4 (by omega)
          have d5 := hat 5 (by omega)
          simp only [Hv.cells, List.getElem?_cons_zero, List.getElem?_cons_succ, Nat.add_zero] at d0 d1 d2 d3 d4 d5
          have hnew : ∀ q, q < 6 → ∃ v, wr.cell? ⟨w.heap.size, j * 6 + q, none⟩ = some v := fun q hq => by
            have hs := hfi.1
            exact ⟨cs[j * 6 + q]'(by omega), by rw [hb.cell]; exact Array.getElem?_eq_getElem _⟩
          obtain ⟨v0, n0⟩ := hnew 0 (by omega)
          obtain ⟨v1, n1⟩ := hnew 1 (by omega)
          obtain ⟨v2, n2'⟩ := hnew 2 (by omega)
          obtain ⟨v3, n3⟩ := hnew 3 (by omega)
          obtain ⟨v4, n4⟩ := hnew 4 (by omega)
          obtain ⟨v5, n5⟩ := hnew 5 (by omega)
          simp only [Nat.add_zero] at n0
          have m0 := hb.frozen (j * 6)
          have m1 := hb.frozen (j * 6 + 1)
          have m2 := hb.frozen (j * 6 + 2)
          have m3 := hb.frozen (j * 6 + 3)
          have m4 := hb.frozen (j * 6 + 4)
          have m5 := hb.frozen (j * 6 + 5)
          have hg1 : g ≠ w.heap.size := by have := HBL.out.lt; omega
          have hr1 : rg ≠ w.heap.size := by have := hbr.lt; simp only at this; omega
          have key : ∀ q : Addr, q.block ≠ w.heap.size → (set6 wr w.heap.size j (.int .i64 h.e.kind) (.string h.e.key) (.slice h.A h.e.val.length h.c) (.int .u64 h.e.birth) (.int .u64 h.e.due) (.int .u64 h.e.at_)).cell? q = wr.cell? q := fun q hq => set6_cell hq _ _ _ _ _ _
          have k4 := (key ⟨g, 4, none⟩ hg1).trans c4
          have k5 := (key ⟨g, 5, none⟩ hg1).trans c5
          have l0 := (key ⟨rg, p * 6, none⟩ hr1).trans d0
          have l1 := (key ⟨rg, p * 6 + 1, none⟩ hr1).trans d1
          have l2 := (key ⟨rg, p * 6 + 2, none⟩ hr1).trans d2
          have l3 := (key ⟨rg, p * 6 + 3, none⟩ hr1).trans d3
          have l4 := (key ⟨rg, p * 6 + 4, none⟩ hr1).trans d4
          have l5 := (key ⟨rg, p * 6 + 5, none⟩ hr1).trans d5
          unfold set6 at k4 k5 l0 l1 l2 l3 l4 l5
          have hj0 : (0 : Int) ≤ (j : Int) := Int.natCast_nonneg _
          have hj1 : (j : Int) < (rn : Int) := by omega
          have hj2 : (j : Int) < (n2 : Int) := by omega
          have hp0 : (0 : Int) ≤ (p : Int) := Int.natCast_nonneg _
          have hp1 : (p : Int) < (rn : Int) := by omega
          have hw1 : IntKind.i64.wrap ((f : Int) + (j : Int)) = (f : Int) + (j : Int) := IntWalk.i64_in _ (by omega)
          have hmod : Int.tmod ((f : Int) + (j : Int)) (rn : Int) = (p : Int) := by rw [Int.tmod_eq_emod_of_nonneg (by omega), ← hp]; push_cast; rfl
          have hmod' : ((f : Int) + (j : Int)) % (rn : Int) = (p : Int) := by rw [← hp]; push_cast; rfl
          have hr0 : ¬ (rn : Int) = 0 := by omega
          have HH := Lib.hid hh
          have HP := Lib.hid hp
          have HBR := Lib.hid hbr
          clear hat hnew key hh hp hring hbr hbr' hk hc hb hfi
          go_wp2
          go_region_held3 (fun w' => w'.cell? ⟨g, 4, none⟩ = some (.slice (some ⟨rg, 0, none⟩) rn rn) ∧ w'.cell? ⟨g, 5, none⟩ = some (.int .i64 f) ∧ w'.cell? ⟨rg, p * 6, none⟩ = some (.int .i64 h.e.kind) ∧ w'.cell? ⟨rg, p * 6 + 1, none⟩ = some (.string h.e.key) ∧
              w'.cell? ⟨rg, p * 6 + 2, none⟩ = some (.slice h.A h.e.val.length h.c) ∧ w'.cell? ⟨rg, p * 6 + 3, none⟩ = some (.int .u64 h.e.birth) ∧ w'.cell? ⟨rg, p * 6 + 4, none⟩ = some (.int .u64 h.e.due) ∧ w'.cell? ⟨rg, p * 6 + 5, none⟩ = some (.int .u64 h.e.at_))
            (first
              | go_keep
              | exact ⟨k4, k5, l0, l1, l2, l3, l4, l5⟩
              | fail) (fail)
          all_goals
            go_wp2
            go_roundw
            case rel =>
              exact ⟨j + 1, put6 cs j (.int .i64 h.e.kind) (.string h.e.key) (.slice h.A h.e.val.length h.c) (.int .u64 h.e.birth) (.int .u64 h.e.due) (.int .u64 h.e.at_), by omega, by go_num, (set6_chg j HC.out (Or.inr (Nat.le_refl _)) (.int .i64 h.e.kind) (.string h.e.key) (.slice h.A h.e.val.length h.c) (.int .u64 h.e.birth) (.int .u64 h.e.due) (.int .u64 h.e.at_)).drew, (set6_blk j HB.out (.int .i64 h.e.kind) (.string h.e.key) (.slice h.A h.e.val.length h.c) (.int .u64 h.e.birth) (.int .u64 h.e.due) (.int .u64 h.e.at_)).drew, HF.out.step (by omega) HH.out⟩
            case measure => simp [intOf]; omega
        · have hjr : j = rn := by omega
          have hnl2 : ¬ ((j : Int) < (rn : Int)) := by omega
          have q4 := hk.cell 4
          have q5 := hk.cell 5
          have p4 := hk.frozen 4
          have p5 := hk.frozen 5
          have hg1 : g ≠ w.heap.size := by have := HBL.out.lt; omega
          have HK := Lib.hid hk
          have HJ := Lib.hid hjr
          clear hc hb hfi hlt hk hjr q4 q5
          go_wp2
          refine bodyPost_ret (v := .tuple #[]) (by simp [results, Try.results54, go_sem]) rfl ⟨rfl, ?_, ⟨rl, w.heap.size, n2, 0, wait, lost⟩, ?_, rfl, rfl, rfl, ?_, Or.inr (Nat.le_refl _)⟩
          · exact ((HC.out.mono (fun x hx => by cases hx)).setCell (p := ⟨g, 4, none⟩) (Or.inl (by simp)) _).setCell (p := ⟨g, 5, none⟩) (Or.inl (by simp)) _
          · have hC4 : Chg [g] w ((wr.setCell ⟨g, 4, none⟩ (.slice (some ⟨w.heap.size, 0, none⟩) n2 n2)).setCell ⟨g, 5, none⟩ (.int .i64 0)) :=
              ((HC.out.mono (fun x hx => by cases hx)).setCell (p := ⟨g, 4, none⟩) (Or.inl (by simp)) _).setCell (p := ⟨g, 5, none⟩) (Or.inl (by simp)) _
            have hO : ∀ (e : Nat), e ≠ 76 → ∀ k ∈ [g], k < w.heap.size → ∃ cs t, Blk w k t cs ∧ t ≠ e := by
              intro e h1 k hk _
              simp only [List.mem_cons, List.not_mem_nil, or_false] at hk
              subst hk
              exact ⟨_, _, HT.out.blk, Ne.symm h1⟩
            exact {
              blk := by
                have hb := (HK.out.set_ 4 (.slice (some ⟨w.heap.size, 0, none⟩) n2 n2)).set_ 5 (.int .i64 0)
                have hn0 : n2 ≠ 0 := by omega
                have e : ((#[Value.string rl.pre, .slice rl.kA rl.kinds.length rl.kc, .int .i64 rl.room, .bool rl.oldest, .slice A rn rn, .int .i64 f, .int .i64 wait.length, .int .i64 lost] : Array Value).setIfInBounds 4 (.slice (some ⟨w.heap.size, 0, none⟩) n2 n2)).setIfInBounds 5 (.int .i64 0) = (Wt.mk rl w.heap.size n2 0 wait lost).cells := by
                  simp [Wt.cells, Wt.ring, hn0]
                rw [← e]
                exact hb
              ring := fun _ => ⟨cs, (HB.out.far (p := ⟨g, 4, none⟩) (Ne.symm hg1) _).far (p := ⟨g, 5, none⟩) (Ne.symm hg1) _, HF.out.ring (by show wait.length ≤ j; rw [hw, HJ.out]; exact Nat.le_refl _) (by show wait.length ≤ n2; omega)⟩
              hf := fun _ => by show 0 < n2; omega
              hf0 := fun _ => rfl
              many := by show wait.length ≤ n2; omega
              room1 := HT.out.room1
              room := hn2b
              room2 := HT.out.room2
              own := fun x hx => hC4.evOwn (HT.out.own x hx) (hO 5 (by decide))
              kinds := HT.out.kinds.imp id (fun hk => hC4.own hk (hO 25 (by decide))) }
          · show wait.length < n2
            omega
end Go.Proofs.Ytfimgkjdfjlkhaa
