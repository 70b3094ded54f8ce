/- 'put' of a watcher. The value of an event has at most 65536 bytes. -/
import Derived.Test.YtfimgkjdfjlkhaaHh
namespace Go.Proofs.Ytfimgkjdfjlkhaa
open Go.RowKit Go.Deep

theorem grow_any (w : World) (base g : Nat) (t : Wt) (ht : WtAt w base g t) (hr : t.rn < t.rl.room) :
    Calls Try.prog 54 #[.pointer (some ⟨g, 0, none⟩)] w (growTo w base g t) := by
  by_cases h : t.wait.length < t.rn
  · exact grow_no w base g t ht h
  · exact grow_yes w base g t ht (by have := ht.many; omega) hr
/-- What 'put' does to what waits and to what was lost. -/
def PutsTo (B : Nat) (t : Wt) (e : Ev) (t' : Wt) (b : Bool) : Prop :=
  if t.wait.length = t.rl.room then
    if t.rl.oldest = true then b = true ∧ (∃ h', h'.e = e ∧ (∀ a, h'.A = some a → B ≤ a.block) ∧ t'.wait = t.wait.tail ++ [h']) ∧ t'.lost = t.lost + 1
    else b = false ∧ t'.wait = t.wait ∧ t'.lost = t.lost + 1
  else b = true ∧ (∃ h', h'.e = e ∧ (∀ a, h'.A = some a → B ≤ a.block) ∧ t'.wait = t.wait ++ [h']) ∧ t'.lost = t.lost
def putTo (w : World) (base g : Nat) (t : Wt) (h : Hv) (e : Ending) (w' : World) : Prop :=
  ∃ (t' : Wt) (b : Bool), e = .returned (.bool b) ∧ WtAt w' base g t' ∧ Chg [g, t.rg] w w' ∧ t'.rl = t.rl ∧ (t'.rg = t.rg ∧ t'.rn = t.rn ∨ w.heap.size ≤ t'.rg) ∧ PutsTo w.heap.size t h.e t' b
/-- A watcher whose number of lost events has grown. -/
def Wt.more (t : Wt) : Wt := { t with lost := t.lost + 1 }
theorem WtAt.more {w w1 : World} {base g : Nat} {t : Wt} (ht : WtAt w base g t) (h : Chg [] w w1) : WtAt (w1.setCell ⟨g, 7, none⟩ (.int .i64 ((t.lost : Int) + 1))) base g t.more := by
  have hC : Chg [g] w (w1.setCell ⟨g, 7, none⟩ (.int .i64 ((t.lost : Int) + 1))) := (h.mono (fun x hx => by cases hx)).setCell (p := ⟨g, 7, none⟩) (Or.inl (by simp)) _
  have hO : ∀ (e : Nat), e ≠ 76 → ∀ k ∈ [g], k < w.heap.size → ∃ cs t, Blk w k t cs ∧ t ≠ e := by
    intro e h1 k hk _
    simp only [List.mem_cons, List.not_mem_nil, or_false] at hk
    subst hk
    exact ⟨_, _, ht.blk, Ne.symm h1⟩
  exact { ht with
    blk := by
      have hb := (h.blk ht.blk (by simp)).set_ 7 (.int .i64 ((t.lost : Int) + 1))
      have e : t.cells.setIfInBounds 7 (.int .i64 ((t.lost : Int) + 1)) = t.more.cells := by
        simp [Wt.cells, Wt.more]
        rfl
      rw [← e]
      exact hb
    ring := fun hn => by
      obtain ⟨cs, hb, hi⟩ := ht.ring hn
      exact ⟨cs, (h.blk hb (by simp)).far (p := ⟨g, 7, none⟩) (Ne.symm (ht.blk.ne_ hb (by decide))) _, hi⟩
    own := fun x hx => hC.evOwn (ht.own x hx) (hO 5 (by decide))
    kinds := ht.kinds.imp id (fun hk => hC.own hk (hO 25 (by decide))) }
theorem Hv.Ok.drew' {h : Hv} {w : World} (o : h.Ok w w.heap.size) : h.Ok w.drew w.drew.heap.size := ⟨o.val, o.key, o.nil⟩
theorem Hv.Ok.chg {h : Hv} {w w1 : World} {O : List Nat} (o : h.Ok w w.heap.size) (hc : Chg O w w1) (hn : 0 < h.e.val.length → ∀ a, h.A = some a → a.block ∉ O) : h.Ok w1 w1.heap.size := by
  refine ⟨⟨o.val.1, fun hp => ?_⟩, o.key, o.nil⟩
  obtain ⟨ad, e, hb, hx⟩ := o.val.2 hp
  refine ⟨ad, e, Nat.lt_of_lt_of_le hb hc.size, fun j u hu => ?_⟩
  have hbk := hc.block ad.block hb (hn hp ad e)
  rw [← hx j u hu]
  exact World.cell?_of_block (by rw [block_of_add]; exact hbk)
/-- The boxed event and three fields of the watcher, which the last statement of 'put' reads. -/
def PB (g bx : Nat) (rv : Value) (f m : Nat) (h : Hv) (w' : World) : Prop :=
  w'.cell? ⟨g, 4, none⟩ = some rv ∧ w'.cell? ⟨g, 5, none⟩ = some (.int .i64 f) ∧ w'.cell? ⟨g, 6, none⟩ = some (.int .i64 m) ∧ w'.cell? ⟨bx, 0, none⟩ = some (.int .i64 h.e.kind) ∧ w'.cell? ⟨bx, 1, none⟩ = some (.string h.e.key) ∧
    w'.cell? ⟨bx, 2, none⟩ = some (.slice h.A h.e.val.length h.c) ∧ w'.cell? ⟨bx, 3, none⟩ = some (.int .u64 h.e.birth) ∧ w'.cell? ⟨bx, 4, none⟩ = some (.int .u64 h.e.due) ∧ w'.cell? ⟨bx, 5, none⟩ = some (.int .u64 h.e.at_)
theorem PB.keep {g bx f m : Nat} {rv : Value} {h : Hv} {w w' : World} (b : PB g bx rv f m h w) (h1 : ∀ i : Nat, w'.cell? ⟨g, i, none⟩ = w.cell? ⟨g, i, none⟩) (h2 : ∀ i : Nat, w'.cell? ⟨bx, i, none⟩ = w.cell? ⟨bx, i, none⟩) : PB g bx rv f m h w' := by
  unfold PB at b ⊢
  rw [h1, h1, h1, h2, h2, h2, h2, h2, h2]
  exact b
/-- The watcher behind the last statements of 'put'. -/
def Wt.got (t : Wt) (h : Hv) : Wt := { t with wait := t.wait ++ [h] }
theorem WtAt.got {w w8 w9 : World} {base g : Nat} {t : Wt} {h' : Hv} {p : Nat} (ht : WtAt w base g t) (hb : Below w.heap.size w w8) (hp : (t.first + t.wait.length) % t.rn = p) (hl : t.wait.length < t.rn) (ho : EvOwn w8 base h')
    (hw : w9 = ((set6 w8 t.rg p (.int .i64 h'.e.kind) (.string h'.e.key) (.slice h'.A h'.e.val.length h'.c) (.int .u64 h'.e.birth) (.int .u64 h'.e.due) (.int .u64 h'.e.at_)).setCell ⟨g, 6, none⟩ (.int .i64 ((t.wait.length : Int) + 1)))) :
    WtAt w9 base g (t.got h') ∧ Chg [g, t.rg] w w9 := by
  have hrn : t.rn ≠ 0 := by omega
  obtain ⟨cs, hbr, hring⟩ := ht.ring hrn
  have hgr : g ≠ t.rg := ht.blk.ne_ hbr (by decide)
  have hbr8 := hbr.below hb hbr.lt
  have hbl8 := ht.blk.below hb ht.blk.lt
  have hC8 : Chg [g, t.rg] w8 w9 := by
    rw [hw]
    exact (set6_chg p (Chg.refl _ w8) (Or.inl (by simp)) _ _ _ _ _ _).setCell (p := ⟨g, 6, none⟩) (Or.inl (by simp)) _
  have hC : Chg [g, t.rg] w w9 := (Chg.below hb [g, t.rg]).trans hC8 (fun x hx => Or.inl hx)
  have hO : ∀ (e : Nat), e ≠ 76 → e ≠ 30 → ∀ k ∈ [g, t.rg], k < w.heap.size → ∃ cs t, Blk w k t cs ∧ t ≠ e := by
    intro e h1 h2 k hk _
    simp only [List.mem_cons, List.not_mem_nil, or_false] at hk
    rcases hk with rfl | rfl
    · exact ⟨_, _, ht.blk, Ne.symm h1⟩
    · exact ⟨_, _, hbr, Ne.symm h2⟩
  have hO8 : ∀ k ∈ [g, t.rg], k < w8.heap.size → ∃ cs t, Blk w8 k t cs ∧ t ≠ 5 := by
    intro k hk _
    simp only [List.mem_cons, List.not_mem_nil, or_false] at hk
    rcases hk with rfl | rfl
    · exact ⟨_, _, hbl8, by decide⟩
    · exact ⟨_, _, hbr8, by decide⟩
  refine ⟨?_, hC⟩
  exact { ht with
    blk := by
      have h1 := (set6_far p hbl8 hgr (.int .i64 h'.e.kind) (.string h'.e.key) (.slice h'.A h'.e.val.length h'.c) (.int .u64 h'.e.birth) (.int .u64 h'.e.due) (.int .u64 h'.e.at_)).set_ 6 (.int .i64 ((t.wait.length : Int) + 1))
      have e : t.cells.setIfInBounds 6 (.int .i64 ((t.wait.length : Int) + 1)) = (t.got h').cells := by
        simp [Wt.cells, Wt.got]
        rfl
      rw [← e, hw]
      exact h1
    ring := fun _ => by
      have h1 := (set6_blk p hbr8 (.int .i64 h'.e.kind) (.string h'.e.key) (.slice h'.A h'.e.val.length h'.c) (.int .u64 h'.e.birth) (.int .u64 h'.e.due) (.int .u64 h'.e.at_)).far (p := ⟨g, 6, none⟩) (Ne.symm hgr) (.int .i64 ((t.wait.length : Int) + 1))
      rw [← hw] at h1
      have h2 := hring.put h' hl
      rw [hp] at h2
      exact ⟨_, h1, h2⟩
    many := by show (t.wait ++ [h']).length ≤ t.rn; simp; omega
    own := fun x hx => by
      rcases List.mem_append.1 hx with hx | hx
      · exact hC.evOwn (ht.own x hx) (hO 5 (by decide) (by decide))
      · simp only [List.mem_singleton] at hx
        subst hx
        exact hC8.evOwn ho hO8
    kinds := ht.kinds.imp id (fun hk => hC.own hk (hO 25 (by decide) (by decide))) }
set_option maxRecDepth 100000 in
set_option maxHeartbeats 2000000 in
theorem put_no (w : World) (base g : Nat) (t : Wt) (h : Hv) (ht : WtAt w base g t) (hfull : t.wait.length = t.rl.room) (hold : t.rl.oldest = false) (hl : t.lost ≤ 1000000000) :
    Calls Try.prog 36 #[.pointer (some ⟨g, 0, none⟩), h.v] w (putTo w base g t h) := by
  have hrn : t.rn ≠ 0 := by have := ht.many; have := ht.room1; omega
  have hr1 := ht.room2
  have hblk := ht.blk.alloc (.cells h.cells.toArray 30)
  unfold Wt.cells Wt.ring at hblk
  simp only [if_neg hrn] at hblk
  have c2 := hblk.cell 2
  have c3 := hblk.cell 3
  have c6 := hblk.cell 6
  have c7 := hblk.cell 7
  have f7 := hblk.frozen 7
  simp only [List.getElem?_toArray, List.getElem?_cons_zero, List.getElem?_cons_succ] at c2 c3 c6 c7
  rw [hfull] at c6
  rw [hold] at c3
  have HT := Lib.hid ht
  have HF := Lib.hid hfull
  have HO := Lib.hid hold
  clear hblk ht hfull hold
  simp only [Hv.cells] at c2 c3 c6 c7 f7
  unfold Hv.v
  go_enter Try.func36, Try.ntmps36
  go_wp2
  go_region
  all_goals
    go_wp2
    go_ret
    refine ⟨t.more, false, rfl, ?_, ?_, rfl, Or.inl ⟨rfl, rfl⟩, ?_⟩
    · exact HT.out.more (((Chg.refl [] w).alloc (.cells #[.int .i64 h.e.kind, .string h.e.key, .slice h.A h.e.val.length h.c, .int .u64 h.e.birth, .int .u64 h.e.due, .int .u64 h.e.at_] 30)).drew)
    · exact (((Chg.refl [g, t.rg] w).alloc _).drew).setCell (p := ⟨g, 7, none⟩) (Or.inl (by simp)) _
    · unfold PutsTo
      rw [if_pos HF.out, if_neg (by rw [HO.out]; simp)]
      exact ⟨rfl, rfl, rfl⟩
set_option maxRecDepth 100000 in
set_option maxHeartbeats 4000000 in
theorem put_room (w : World) (base g : Nat) (t : Wt) (h : Hv) (ht : WtAt w base g t) (hfull : t.wait.length ≠ t.rl.room) (hok : h.Ok w w.heap.size) (hlen : h.e.val.length ≤ 65536) (hbase : base ≤ w.heap.size)
    (hap : 0 < h.e.val.length → ∀ a, h.A = some a → a.block ≠ g ∧ a.block ≠ t.rg) (hrg : t.rg < w.heap.size) :
    Calls Try.prog 36 #[.pointer (some ⟨g, 0, none⟩), h.v] w (putTo w base g t h) := by
  have HAP := Lib.hid hap
  have HBN : Hid (w.heap.size ≠ g ∧ w.heap.size ≠ t.rg) := Lib.hid ⟨by have := ht.blk.lt; omega, by omega⟩
  obtain ⟨rl, rg, rn, f, wait, lost⟩ := t
  have hring : ∃ A, (Wt.ring ⟨rl, rg, rn, f, wait, lost⟩) = .slice A rn rn := by
    unfold Wt.ring
    by_cases e : rn = 0
    · simp only [e, if_true]; exact ⟨none, rfl⟩
    · simp only [if_neg e]; exact ⟨_, rfl⟩
  obtain ⟨A, hA⟩ := hring
  have hmany := ht.many
  have hroom := ht.room
  have hr1 := ht.room2
  have hblk := ht.blk.alloc (.cells h.cells.toArray 30)
  unfold Wt.cells at hblk
  have c2 := hblk.cell 2
  have c6 := hblk.cell 6
  simp only [List.getElem?_toArray, List.getElem?_cons_zero, List.getElem?_cons_succ] at c2 c6
  have hne : ¬ (wait.length : Int) = (rl.room : Int) := by simp only at hfull; omega
  have hne' : ((wait.length : Int) == (rl.room : Int)) = false := by rw [beq_eq_false_iff_ne]; exact hne
  have HC0 := Lib.hid (((Chg.refl [] w).alloc (.cells h.cells.toArray 30)).drew)
  have HT0 := Lib.hid (ht.chg HC0.out (by simp) (by simp) (by simp))
  have HBX0 := Lib.hid (Blk.new w 30 h.cells.toArray).drew
  have HOK0 := Lib.hid ((hok.below (((Below.refl _ w).alloc (Nat.le_refl _) (.cells h.cells.toArray 30)).drew)).more (B' := (w.alloc (.cells h.cells.toArray 30)).drew.heap.size) (by simp))
  have HF := Lib.hid hfull
  have HOK := Lib.hid hok
  have HW0 : Hid (w.heap.size < (w.alloc (.cells h.cells.toArray 30)).drew.heap.size) := Lib.hid (by simp)
  simp only at hmany hroom hr1
  clear hblk hfull hok hap hrg
  simp only [Hv.cells] at c2 c6 HC0 HT0 HBX0 HOK0 HW0
  unfold Hv.v
  go_enter Try.func36, Try.ntmps36
  go_wp2
  go_region
  all_goals
    generalize (w.alloc (.cells #[.int .i64 h.e.kind, .string h.e.key, .slice h.A h.e.val.length h.c, .int .u64 h.e.birth, .int .u64 h.e.due, .int .u64 h.e.at_] 30)).drew = W0 at *
    clear c2 c6
    have hb0 := HT0.out.blk
    unfold Wt.cells at hb0
    try simp only at hb0
    rw [hA] at hb0
    have c2 := hb0.cell 2
    have c4 := hb0.cell 4
    simp only [List.getElem?_toArray, List.getElem?_cons_zero, List.getElem?_cons_succ] at c2 c4
    by_cases hgrow : rn < rl.room
    · have hgrow' : (rn : Int) < (rl.room : Int) := by omega
      have HG := Lib.hid (grow_any W0.drew base g ⟨rl, rg, rn, f, wait, lost⟩ HT0.out.drew hgrow)
      clear hb0
      go_wp2
      go_region
      all_goals
        go_wp2_with fail
        refine HG.out.mono ?_
        rintro e W1 ⟨rfl, hch, ⟨rl1, rg1, rn1, f1, wait1, lost1⟩, ht1, e1, e2, e3, hlt, hor⟩
        simp only at e1 e2 e3 hlt hor
        have e1 := e1.symm
        have e2 := e2.symm
        have e3 := e3.symm
        subst e1 e2 e3
        have HT1 := Lib.hid ht1
        have HCH := Lib.hid hch
        have HOR := Lib.hid hor
        have HBX := Lib.hid (hch.blk HBX0.out.drew (by simp only [List.mem_cons, List.not_mem_nil, or_false, not_or]; exact HBN.out))
        have HOK1 := Lib.hid ((HOK0.out.drew').chg hch (fun hp a ha => by simp only [List.mem_cons, List.not_mem_nil, or_false, not_or]; exact HAP.out hp a ha))
        have HBXN : Hid (w.heap.size ≠ rg1) := Lib.hid (by rcases hor with e | e; · rw [e.1]; exact HBN.out.2
                                                           · have := HW0.out; have : W0.heap.size ≤ rg1 := e; omega)
        have HBS : Hid (w.heap.size ≤ W1.drew.heap.size) := Lib.hid (Nat.le_trans (Nat.le_of_lt HW0.out) (show W0.heap.size ≤ W1.heap.size from hch.size))
        have HBASE : Hid (base ≤ W1.drew.heap.size) := Lib.hid (Nat.le_trans hbase (Nat.le_trans (Nat.le_of_lt HW0.out) (show W0.heap.size ≤ W1.heap.size from hch.size)))
        clear ht1 hch hor c2 c4
        obtain ⟨p, hp⟩ : ∃ p : Nat, (f1 + wait.length) % rn1 = p := ⟨_, rfl⟩
        have hpl : p < rn1 := by rw [← hp]; exact Nat.mod_lt _ (by omega)
        have hrn1 : rn1 ≠ 0 := by omega
        have hr11 : rn1 ≤ 1000 := Nat.le_trans HT1.out.room HT1.out.room2
        have hf1 : f1 < rn1 := HT1.out.hf hrn1
        obtain ⟨cs, hbr, hring⟩ := HT1.out.ring hrn1
        have hbl1 := HT1.out.blk
        unfold Wt.cells Wt.ring at hbl1
        simp only [if_neg hrn1] at hbl1
        have hgr1 : g ≠ rg1 := hbl1.ne_ hbr (by decide)
        have hbr1 : w.heap.size ≠ rg1 := HBXN.out
        have HBL1 := Lib.hid hbl1.drew
        have HBR1 := Lib.hid hbr.drew
        have HRI1 := Lib.hid hring
        have hS : PB g w.heap.size (.slice (some ⟨rg1, 0, none⟩) rn1 rn1) f1 wait.length h W1.drew := ⟨hbl1.cell 4, hbl1.cell 5, hbl1.cell 6, HBX.out.cell 0, HBX.out.cell 1, HBX.out.cell 2, HBX.out.cell 3, HBX.out.cell 4, HBX.out.cell 5⟩
        have HS := Lib.hid hS
        have hcp := copied_any h W1.drew HOK1.out.drew' (by omega)
        unfold Hv.v at hcp
        have HCP := Lib.hid hcp
        have hp0 : (0 : Int) ≤ (p : Int) := Int.natCast_nonneg _
        have hp1 : (p : Int) < (rn1 : Int) := by omega
        have hw1 : IntKind.i64.wrap ((f1 : Int) + (wait.length : Int)) = (f1 : Int) + (wait.length : Int) := IntWalk.i64_in _ (by omega)
        have hmod : Int.tmod ((f1 : Int) + (wait.length : Int)) (rn1 : Int) = (p : Int) := by rw [Int.tmod_eq_emod_of_nonneg (by omega), ← hp]; push_cast; rfl
        have hmod' : ((f1 : Int) + (wait.length : Int)) % (rn1 : Int) = (p : Int) := by rw [← hp]; push_cast; rfl
        have hr0 : ¬ (rn1 : Int) = 0 := by omega
        have HPP := Lib.hid hp
        clear hp hbr hring hbl1 hS hcp
        go_wp2
        refine wp_region_noPanic ?_
        refine wp_region_held_drew (S := fun w' => w'.cell? ⟨g, 4, none⟩ = some (.slice (some ⟨rg1, 0, none⟩) rn1 rn1) ∧ w'.cell? ⟨g, 5, none⟩ = some (.int .i64 f1) ∧ w'.cell? ⟨g, 6, none⟩ = some (.int .i64 wait.length) ∧ w'.cell? ⟨w.heap.size, 0, none⟩ = some (.int .i64 h.e.kind) ∧ w'.cell? ⟨w.heap.size, 1, none⟩ = some (.string h.e.key) ∧ w'.cell? ⟨w.heap.size, 2, none⟩ = some (.slice h.A h.e.val.length h.c) ∧ w'.cell? ⟨w.heap.size, 3, none⟩ = some (.int .u64 h.e.birth) ∧ w'.cell? ⟨w.heap.size, 4, none⟩ = some (.int .u64 h.e.due) ∧ w'.cell? ⟨w.heap.size, 5, none⟩ = some (.int .u64 h.e.at_)) (by kernel_rfl) HS.out (fun hHeld => ?_)
        refine wpAnyH_take (i := 0) (oi := { dst := some 43, op := Op.move (Operand.tmp 0), type := 74, pos := "watch.go:65", after := #[], guard := none }) (v := ?_) rfl (by kernel_rfl) (by kernel_rfl) (by kernel_rfl) (fun _ _ _ h => h) (Or.inl ⟨by rfl, ?_⟩) hHeld ?_
        rotate_left 1
        · intro wz hSw
          try dsimp only at hSw
          go_simp
          try with_reducible rfl
        try simp only [Act.put, List.setIfInBounds_toArray, List.set_cons_zero, List.set_cons_succ]
        refine wpAnyH_take (i := 1) (oi := { dst := some 44, op := Op.nilCheck (Operand.tmp 43), type := 0, pos := "watch.go:65", after := #[{ on := 0, ground := Ground.data }], guard := none }) (v := ?_) rfl (by kernel_rfl) (by kernel_rfl) (by kernel_rfl) (fun _ _ _ h => h) (Or.inl ⟨by rfl, ?_⟩) hHeld ?_
        rotate_left 1
        · intro wz hSw
          try dsimp only at hSw
          go_simp
          try with_reducible rfl
        try simp only [Act.put, List.setIfInBounds_toArray, List.set_cons_zero, List.set_cons_succ]
        refine wpAnyH_take (i := 2) (oi := { dst := some 45, op := Op.fieldAddr 76 (Operand.tmp 44) 1, type := 0, pos := "watch.go:65", after := #[{ on := 1, ground := Ground.data }], guard := none }) (v := ?_) rfl (by kernel_rfl) (by kernel_rfl) (by kernel_rfl) (fun _ _ _ h => h) (Or.inl ⟨by rfl, ?_⟩) hHeld ?_
        rotate_left 1
        · intro wz hSw
          try dsimp only at hSw
          go_simp
          try with_reducible rfl
        try simp only [Act.put, List.setIfInBounds_toArray, List.set_cons_zero, List.set_cons_succ]
        refine wpAnyH_take (i := 3) (oi := { dst := some 46, op := Op.load 38 (Operand.tmp 45), type := 38, pos := "watch.go:65", after := #[{ on := 2, ground := Ground.data }], guard := none }) (v := ?_) rfl (by kernel_rfl) (by kernel_rfl) (by kernel_rfl) (fun _ _ _ h => h) (Or.inl ⟨by rfl, ?_⟩) hHeld ?_
        rotate_left 1
        · intro wz hSw
          try dsimp only at hSw
          go_simp
          try with_reducible rfl
        try simp only [Act.put, List.setIfInBounds_toArray, List.set_cons_zero, List.set_cons_succ]
        refine wpAnyH_take (i := 4) (oi := { dst := some 47, op := Op.move (Operand.tmp 0), type := 74, pos := "watch.go:65", after := #[], guard := none }) (v := ?_) rfl (by kernel_rfl) (by kernel_rfl) (by kernel_rfl) (fun _ _ _ h => h) (Or.inl ⟨by rfl, ?_⟩) hHeld ?_
        rotate_left 1
        · intro wz hSw
          try dsimp only at hSw
          go_simp
          try with_reducible rfl
        try simp only [Act.put, List.setIfInBounds_toArray, List.set_cons_zero, List.set_cons_succ]
        refine wpAnyH_take (i := 5) (oi := { dst := some 48, op := Op.nilCheck (Operand.tmp 47), type := 0, pos := "watch.go:65", after := #[{ on := 4, ground := Ground.data }], guard := none }) (v := ?_) rfl (by kernel_rfl) (by kernel_rfl) (by kernel_rfl) (fun _ _ _ h => h) (Or.inl ⟨by rfl, ?_⟩) hHeld ?_
        rotate_left 1
        · intro wz hSw
          try dsimp only at hSw
          go_simp
          try with_reducible rfl
        try simp only [Act.put, List.setIfInBounds_toArray, List.set_cons_zero, List.set_cons_succ]
        refine wpAnyH_take (i := 6) (oi := { dst := some 49, op := Op.fieldAddr 76 (Operand.tmp 48) 2, type := 0, pos := "watch.go:65", after := #[{ on := 5, ground := Ground.data }], guard := none }) (v := ?_) rfl (by kernel_rfl) (by kernel_rfl) (by kernel_rfl) (fun _ _ _ h => h) (Or.inl ⟨by rfl, ?_⟩) hHeld ?_
        rotate_left 1
        · intro wz hSw
          try dsimp only at hSw
          go_simp
          try with_reducible rfl
        try simp only [Act.put, List.setIfInBounds_toArray, List.set_cons_zero, List.set_cons_succ]
        refine wpAnyH_take (i := 7) (oi := { dst := some 50, op := Op.load 3 (Operand.tmp 49), type := 3, pos := "watch.go:65", after := #[{ on := 6, ground := Ground.data }], guard := none }) (v := ?_) rfl (by kernel_rfl) (by kernel_rfl) (by kernel_rfl) (fun _ _ _ h => h) (Or.inl ⟨by rfl, ?_⟩) hHeld ?_
        rotate_left 1
        · intro wz hSw
          try dsimp only at hSw
          go_simp
          try with_reducible rfl
        try simp only [Act.put, List.setIfInBounds_toArray, List.set_cons_zero, List.set_cons_succ]
        refine wpAnyH_take (i := 8) (oi := { dst := some 51, op := Op.move (Operand.tmp 0), type := 74, pos := "watch.go:65", after := #[], guard := none }) (v := ?_) rfl (by kernel_rfl) (by kernel_rfl) (by kernel_rfl) (fun _ _ _ h => h) (Or.inl ⟨by rfl, ?_⟩) hHeld ?_
        rotate_left 1
        · intro wz hSw
          try dsimp only at hSw
          go_simp
          try with_reducible rfl
        try simp only [Act.put, List.setIfInBounds_toArray, List.set_cons_zero, List.set_cons_succ]
        refine wpAnyH_take (i := 9) (oi := { dst := some 52, op := Op.nilCheck (Operand.tmp 51), type := 0, pos := "watch.go:65", after := #[{ on := 8, ground := Ground.data }], guard := none }) (v := ?_) rfl (by kernel_rfl) (by kernel_rfl) (by kernel_rfl) (fun _ _ _ h => h) (Or.inl ⟨by rfl, ?_⟩) hHeld ?_
        rotate_left 1
        · intro wz hSw
          try dsimp only at hSw
          go_simp
          try with_reducible rfl
        try simp only [Act.put, List.setIfInBounds_toArray, List.set_cons_zero, List.set_cons_succ]
        refine wpAnyH_take (i := 10) (oi := { dst := some 53, op := Op.fieldAddr 76 (Operand.tmp 52) 3, type := 0, pos := "watch.go:65", after := #[{ on := 9, ground := Ground.data }], guard := none }) (v := ?_) rfl (by kernel_rfl) (by kernel_rfl) (by kernel_rfl) (fun _ _ _ h => h) (Or.inl ⟨by rfl, ?_⟩) hHeld ?_
        rotate_left 1
        · intro wz hSw
          try dsimp only at hSw
          go_simp
          try with_reducible rfl
        try simp only [Act.put, List.setIfInBounds_toArray, List.set_cons_zero, List.set_cons_succ]
        refine wpAnyH_take (i := 11) (oi := { dst := some 54, op := Op.load 3 (Operand.tmp 53), type := 3, pos := "watch.go:65", after := #[{ on := 10, ground := Ground.data }], guard := none }) (v := ?_) rfl (by kernel_rfl) (by kernel_rfl) (by kernel_rfl) (fun _ _ _ h => h) (Or.inl ⟨by rfl, ?_⟩) hHeld ?_
        rotate_left 1
        · intro wz hSw
          try dsimp only at hSw
          go_simp
          try with_reducible rfl
        try simp only [Act.put, List.setIfInBounds_toArray, List.set_cons_zero, List.set_cons_succ]
        refine wpAnyH_take (i := 12) (oi := { dst := some 55, op := Op.binOp BinOp.add 3 (Operand.tmp 50) (Operand.tmp 54) 3, type := 3, pos := "watch.go:65", after := #[{ on := 7, ground := Ground.data }, { on := 11, ground := Ground.data }], guard := none }) (v := ?_) rfl (by kernel_rfl) (by kernel_rfl) (by kernel_rfl) (fun _ _ _ h => h) (Or.inl ⟨by rfl, ?_⟩) hHeld ?_
        rotate_left 1
        · intro wz hSw
          try dsimp only at hSw
          go_simp
          try with_reducible rfl
        try simp only [Act.put, List.setIfInBounds_toArray, List.set_cons_zero, List.set_cons_succ]
        refine wpAnyH_take (i := 13) (oi := { dst := some 56, op := Op.move (Operand.tmp 0), type := 74, pos := "watch.go:65", after := #[], guard := none }) (v := ?_) rfl (by kernel_rfl) (by kernel_rfl) (by kernel_rfl) (fun _ _ _ h => h) (Or.inl ⟨by rfl, ?_⟩) hHeld ?_
        rotate_left 1
        · intro wz hSw
          try dsimp only at hSw
          go_simp
          try with_reducible rfl
        try simp only [Act.put, List.setIfInBounds_toArray, List.set_cons_zero, List.set_cons_succ]
        refine wpAnyH_take (i := 14) (oi := { dst := some 57, op := Op.nilCheck (Operand.tmp 56), type := 0, pos := "watch.go:65", after := #[{ on := 13, ground := Ground.data }], guard := none }) (v := ?_) rfl (by kernel_rfl) (by kernel_rfl) (by kernel_rfl) (fun _ _ _ h => h) (Or.inl ⟨by rfl, ?_⟩) hHeld ?_
        rotate_left 1
        · intro wz hSw
          try dsimp only at hSw
          go_simp
          try with_reducible rfl
        try simp only [Act.put, List.setIfInBounds_toArray, List.set_cons_zero, List.set_cons_succ]
        refine wpAnyH_take (i := 15) (oi := { dst := some 58, op := Op.fieldAddr 76 (Operand.tmp 57) 1, type := 0, pos := "watch.go:65", after := #[{ on := 14, ground := Ground.data }], guard := none }) (v := ?_) rfl (by kernel_rfl) (by kernel_rfl) (by kernel_rfl) (fun _ _ _ h => h) (Or.inl ⟨by rfl, ?_⟩) hHeld ?_
        rotate_left 1
        · intro wz hSw
          try dsimp only at hSw
          go_simp
          try with_reducible rfl
        try simp only [Act.put, List.setIfInBounds_toArray, List.set_cons_zero, List.set_cons_succ]
        refine wpAnyH_take (i := 16) (oi := { dst := some 59, op := Op.load 38 (Operand.tmp 58), type := 38, pos := "watch.go:65", after := #[{ on := 15, ground := Ground.data }], guard := none }) (v := ?_) rfl (by kernel_rfl) (by kernel_rfl) (by kernel_rfl) (fun _ _ _ h => h) (Or.inl ⟨by rfl, ?_⟩) hHeld ?_
        rotate_left 1
        · intro wz hSw
          try dsimp only at hSw
          go_simp
          try with_reducible rfl
        try simp only [Act.put, List.setIfInBounds_toArray, List.set_cons_zero, List.set_cons_succ]
        refine wpAnyH_take (i := 17) (oi := { dst := some 60, op := Op.call { callee := Callee.builtin Builtin.len, args := #[Operand.tmp 59], argTypes := #[38] }, type := 3, pos := "watch.go:65", after := #[{ on := 16, ground := Ground.data }], guard := none }) (v := ?_) rfl (by kernel_rfl) (by kernel_rfl) (by kernel_rfl) (fun _ _ _ h => h) (Or.inl ⟨by rfl, ?_⟩) hHeld ?_
        rotate_left 1
        · intro wz hSw
          try dsimp only at hSw
          go_simp
          try with_reducible rfl
        try simp only [Act.put, List.setIfInBounds_toArray, List.set_cons_zero, List.set_cons_succ]
        refine wpAnyH_take (i := 18) (oi := { dst := some 61, op := Op.binOp BinOp.rem 3 (Operand.tmp 55) (Operand.tmp 60) 3, type := 3, pos := "watch.go:65", after := #[{ on := 12, ground := Ground.data }, { on := 17, ground := Ground.data }], guard := none }) (v := ?_) rfl (by kernel_rfl) (by kernel_rfl) (by kernel_rfl) (fun _ _ _ h => h) (Or.inl ⟨by rfl, ?_⟩) hHeld ?_
        rotate_left 1
        · intro wz hSw
          try dsimp only at hSw
          go_simp
          try with_reducible rfl
        try simp only [Act.put, List.setIfInBounds_toArray, List.set_cons_zero, List.set_cons_succ]
        refine wpAnyH_take (i := 19) (oi := { dst := some 62, op := Op.load 30 (Operand.tmp 3), type := 30, pos := "watch.go:65", after := #[], guard := none }) (v := ?_) rfl (by kernel_rfl) (by kernel_rfl) (by kernel_rfl) (fun _ _ _ h => h) (Or.inl ⟨by rfl, ?_⟩) hHeld ?_
        rotate_left 1
        · intro wz hSw
          try dsimp only at hSw
          go_simp
          try with_reducible rfl
        try simp only [Act.put, List.setIfInBounds_toArray, List.set_cons_zero, List.set_cons_succ]
        refine wpAnyH_ready (rs := [20]) (by kernel_rfl) (by simp) ?_
        refine AllReadyH.cons (o := { dst := some 63, op := Op.call { callee := Callee.value (Operand.func 46), args := #[Operand.tmp 62], argTypes := #[30] }, type := 30, pos := "watch.go:65", after := #[{ on := 19, ground := Ground.data }], guard := none }) rfl (fun K hK => ?_) AllReadyH.nil
        go_simp
        refine (HCP.out).mono ?_
        rintro e w8 ⟨h', rfl, he', hok', hb8, hfr, hown'⟩
        have HFR := Lib.hid hfr
        clear hfr
        unfold Hv.v
        have j8 := HBR1.out.below hb8 HBR1.out.lt
        have hs8 := HRI1.out.1
        have hnew : ∀ q, q < 6 → ∃ v, w8.cell? ⟨rg1, p * 6 + q, none⟩ = some v := fun q hq => ⟨cs[p * 6 + q]'(by omega), by rw [j8.cell]; exact Array.getElem?_eq_getElem _⟩
        obtain ⟨v0, n0⟩ := hnew 0 (by omega)
        obtain ⟨v1, n1⟩ := hnew 1 (by omega)
        obtain ⟨v2, n2⟩ := hnew 2 (by omega)
        obtain ⟨v3, n3⟩ := hnew 3 (by omega)
        obtain ⟨v4, n4⟩ := hnew 4 (by omega)
        obtain ⟨v5, n5⟩ := hnew 5 (by omega)
        simp only [Nat.add_zero] at n0
        have m0 := j8.frozen (p * 6)
        have m1 := j8.frozen (p * 6 + 1)
        have m2 := j8.frozen (p * 6 + 2)
        have m3 := j8.frozen (p * 6 + 3)
        have m4 := j8.frozen (p * 6 + 4)
        have m5 := j8.frozen (p * 6 + 5)
        have HB8 := Lib.hid hb8
        have HE' := Lib.hid he'
        have HOW' := Lib.hid hown'
        have HOK' := Lib.hid hok'
        clear hnew j8 he' hok' hown' hs8
        refine hK.out _ _ ((show PB g w.heap.size (.slice (some ⟨rg1, 0, none⟩) rn1 rn1) f1 wait.length h w8 from PB.keep hHeld (fun i => hb8.cell (show g < W1.heap.size from HBL1.out.lt)) (fun i => hb8.cell (show w.heap.size < W1.heap.size from HBX.out.lt)))) (fun hHeld => ?_)
        clear hK K
        try simp only [Act.put, List.setIfInBounds_toArray, List.set_cons_zero, List.set_cons_succ]
        refine wpAnyH_take (i := 21) (oi := { dst := some 64, op := Op.indexAddr 38 (Operand.tmp 46) (Operand.tmp 61), type := 0, pos := "watch.go:65", after := #[{ on := 3, ground := Ground.data }, { on := 18, ground := Ground.data }, { on := 0, ground := Ground.phase }, { on := 1, ground := Ground.phase }, { on := 2, ground := Ground.phase }, { on := 3, ground := Ground.phase }, { on := 4, ground := Ground.phase }, { on := 5, ground := Ground.phase }, { on := 6, ground := Ground.phase }, { on := 7, ground := Ground.phase }, { on := 8, ground := Ground.phase }, { on := 9, ground := Ground.phase }, { on := 10, ground := Ground.phase }, { on := 11, ground := Ground.phase }, { on := 12, ground := Ground.phase }, { on := 13, ground := Ground.phase }, { on := 14, ground := Ground.phase }, { on := 15, ground := Ground.phase }, { on := 16, ground := Ground.phase }, { on := 17, ground := Ground.phase }, { on := 18, ground := Ground.phase }, { on := 19, ground := Ground.phase }, { on := 20, ground := Ground.phase }], guard := none }) (v := ?_) rfl (by kernel_rfl) (by kernel_rfl) (by kernel_rfl) (fun _ _ _ h => h) (Or.inl ⟨by rfl, ?_⟩) hHeld ?_
        rotate_left 1
        · intro wz hSw
          try dsimp only at hSw
          go_simp
          try with_reducible rfl
        try simp only [Act.put, List.setIfInBounds_toArray, List.set_cons_zero, List.set_cons_succ]
        refine wpAnyH_ready (rs := [22]) (by kernel_rfl) (by simp) ?_
        refine AllReadyH.cons (o := { dst := none, op := Op.store 30 (Operand.tmp 64) (Operand.tmp 63), type := 0, pos := "watch.go:65", after := #[{ on := 21, ground := Ground.data }, { on := 20, ground := Ground.data }, { on := 20, ground := Ground.chain }, { on := 0, ground := Ground.phase }, { on := 1, ground := Ground.phase }, { on := 2, ground := Ground.phase }, { on := 3, ground := Ground.phase }, { on := 4, ground := Ground.phase }, { on := 5, ground := Ground.phase }, { on := 6, ground := Ground.phase }, { on := 7, ground := Ground.phase }, { on := 8, ground := Ground.phase }, { on := 9, ground := Ground.phase }, { on := 10, ground := Ground.phase }, { on := 11, ground := Ground.phase }, { on := 12, ground := Ground.phase }, { on := 13, ground := Ground.phase }, { on := 14, ground := Ground.phase }, { on := 15, ground := Ground.phase }, { on := 16, ground := Ground.phase }, { on := 17, ground := Ground.phase }, { on := 18, ground := Ground.phase }, { on := 19, ground := Ground.phase }, { on := 20, ground := Ground.phase }], guard := none }) rfl (fun K hK => ?_) AllReadyH.nil
        go_simp
        refine hK.out _ _ ((show PB g w.heap.size (.slice (some ⟨rg1, 0, none⟩) rn1 rn1) f1 wait.length h (set6 w8 rg1 p (.int .i64 h'.e.kind) (.string h'.e.key) (.slice h'.A h'.e.val.length h'.c) (.int .u64 h'.e.birth) (.int .u64 h'.e.due) (.int .u64 h'.e.at_)) from PB.keep (show PB g w.heap.size (.slice (some ⟨rg1, 0, none⟩) rn1 rn1) f1 wait.length h w8 from hHeld) (fun i => set6_cell hgr1 _ _ _ _ _ _) (fun i => set6_cell hbr1 _ _ _ _ _ _))) (fun hHeld => ?_)
        clear hK K
        try simp only [Act.put, List.setIfInBounds_toArray, List.set_cons_zero, List.set_cons_succ]
        refine wpAnyH_done (by kernel_rfl) ?_ _
        refine NoPanic.normal ?_
        have c6 : (set6 w8 rg1 p (.int .i64 h'.e.kind) (.string h'.e.key) (.slice h'.A h'.e.val.length h'.c) (.int .u64 h'.e.birth) (.int .u64 h'.e.due) (.int .u64 h'.e.at_)).cell? ⟨g, 6, none⟩ = some (.int .i64 wait.length) := (show PB g w.heap.size (.slice (some ⟨rg1, 0, none⟩) rn1 rn1) f1 wait.length h (set6 w8 rg1 p (.int .i64 h'.e.kind) (.string h'.e.key) (.slice h'.A h'.e.val.length h'.c) (.int .u64 h'.e.birth) (.int .u64 h'.e.due) (.int .u64 h'.e.at_)) from hHeld).2.2.1
        have f6 := (set6_far p (HBL1.out.below HB8.out HBL1.out.lt) hgr1 (.int .i64 h'.e.kind) (.string h'.e.key) (.slice h'.A h'.e.val.length h'.c) (.int .u64 h'.e.birth) (.int .u64 h'.e.due) (.int .u64 h'.e.at_)).frozen 6
        have hgot := HT1.out.drew.got (h' := h') (p := p) HB8.out HPP.out hlt ⟨own_base HOW'.out HBASE.out, HOK'.out.key, by rw [HE'.out]; exact hlen⟩ rfl
        have HGOT := Lib.hid hgot
        have hmi : (wait.length : Int) ≤ 1000 := by omega
        clear hgot n0 n1 n2 n3 n4 n5 m0 m1 m2 m3 m4 m5 hHeld hmod hmod' hw1
        unfold set6 at c6 f6 HGOT
        go_wp2
        go_ret
        refine ⟨(⟨rl, rg1, rn1, f1, wait, lost⟩ : Wt).got h', true, rfl, HGOT.out.1, ?_, rfl, ?_, ?_⟩
        · exact ((HC0.out.mono (fun x hx => by cases hx)).drew.trans HCH.out (fun x hx => Or.inl hx)).drew.trans HGOT.out.2 (fun x hx => by
            simp only [List.mem_cons, List.not_mem_nil, or_false] at hx
            rcases hx with rfl | rfl
            · exact Or.inl (by simp)
            · rcases HOR.out with e | e
              · rw [e.1]; exact Or.inl (by simp)
              · exact Or.inr (Nat.le_trans (Nat.le_of_lt HW0.out) e))
        · rcases HOR.out with e | e
          · exact Or.inl e
          · exact Or.inr (Nat.le_trans (Nat.le_of_lt HW0.out) e)
        · unfold PutsTo
          rw [if_neg HF.out]
          exact ⟨rfl, ⟨h', HE'.out, fun ad ha => Nat.le_trans HBS.out (HFR.out ad ha), rfl⟩, rfl⟩
    · have hlt : wait.length < rn := by have := HF.out; (try simp only at this); omega
      have hgrow' : ¬ (rn : Int) < (rl.room : Int) := by omega
      clear hb0
      go_wp2
      go_region
      all_goals
        have HT1 := Lib.hid HT0.out.drew
        have HBX := Lib.hid HBX0.out.drew
        have HOK1 := Lib.hid HOK0.out.drew'
        have HBXN : Hid (w.heap.size ≠ rg) := Lib.hid HBN.out.2
        have HBS : Hid (w.heap.size ≤ W0.drew.drew.heap.size) := Lib.hid (Nat.le_of_lt HW0.out)
        have HBASE : Hid (base ≤ W0.drew.drew.heap.size) := Lib.hid (Nat.le_trans hbase (Nat.le_of_lt HW0.out))
        have HW0d := HW0.out
        generalize hWd : W0.drew = W1 at *
        clear c2 c4
        obtain ⟨p, hp⟩ : ∃ p : Nat, (f + wait.length) % rn = p := ⟨_, rfl⟩
        have hpl : p < rn := by rw [← hp]; exact Nat.mod_lt _ (by omega)
        have hrn1 : rn ≠ 0 := by omega
        have hr11 : rn ≤ 1000 := Nat.le_trans HT1.out.room HT1.out.room2
        have hf1 : f < rn := HT1.out.hf hrn1
        obtain ⟨cs, hbr, hring⟩ := HT1.out.ring hrn1
        have hbl1 := HT1.out.blk
        unfold Wt.cells Wt.ring at hbl1
        simp only [if_neg hrn1] at hbl1
        have hgr1 : g ≠ rg := hbl1.ne_ hbr (by decide)
        have hbr1 : w.heap.size ≠ rg := HBXN.out
        have HBL1 := Lib.hid hbl1.drew
        have HBR1 := Lib.hid hbr.drew
        have HRI1 := Lib.hid hring
        have hS : PB g w.heap.size (.slice (some ⟨rg, 0, none⟩) rn rn) f wait.length h W1.drew := ⟨hbl1.cell 4, hbl1.cell 5, hbl1.cell 6, HBX.out.cell 0, HBX.out.cell 1, HBX.out.cell 2, HBX.out.cell 3, HBX.out.cell 4, HBX.out.cell 5⟩
        have HS := Lib.hid hS
        have hcp := copied_any h W1.drew HOK1.out.drew' (by omega)
        unfold Hv.v at hcp
        have HCP := Lib.hid hcp
        have hp0 : (0 : Int) ≤ (p : Int) := Int.natCast_nonneg _
        have hp1 : (p : Int) < (rn : Int) := by omega
        have hw1 : IntKind.i64.wrap ((f : Int) + (wait.length : Int)) = (f : Int) + (wait.length : Int) := IntWalk.i64_in _ (by omega)
        have hmod : Int.tmod ((f : Int) + (wait.length : Int)) (rn : Int) = (p : Int) := by rw [Int.tmod_eq_emod_of_nonneg (by omega), ← hp]; push_cast; rfl
        have hmod' : ((f : Int) + (wait.length : Int)) % (rn : Int) = (p : Int) := by rw [← hp]; push_cast; rfl
        have hr0 : ¬ (rn : Int) = 0 := by omega
        have HPP := Lib.hid hp
        clear hp hbr hring hbl1 hS hcp
        go_wp2
        refine wp_region_noPanic ?_
        refine wp_region_held_drew (S := fun w' => w'.cell? ⟨g, 4, none⟩ = some (.slice (some ⟨rg, 0, none⟩) rn rn) ∧ w'.cell? ⟨g, 5, none⟩ = some (.int .i64 f) ∧ w'.cell? ⟨g, 6, none⟩ = some (.int .i64 wait.length) ∧ w'.cell? ⟨w.heap.size, 0, none⟩ = some (.int .i64 h.e.kind) ∧ w'.cell? ⟨w.heap.size, 1, none⟩ = some (.string h.e.key) ∧ w'.cell? ⟨w.heap.size, 2, none⟩ = some (.slice h.A h.e.val.length h.c) ∧ w'.cell? ⟨w.heap.size, 3, none⟩ = some (.int .u64 h.e.birth) ∧ w'.cell? ⟨w.heap.size, 4, none⟩ = some (.int .u64 h.e.due) ∧ w'.cell? ⟨w.heap.size, 5, none⟩ = some (.int .u64 h.e.at_)) (by kernel_rfl) HS.out (fun hHeld => ?_)
        refine wpAnyH_take (i := 0) (oi := { dst := some 43, op := Op.move (Operand.tmp 0), type := 74, pos := "watch.go:65", after := #[], guard := none }) (v := ?_) rfl (by kernel_rfl) (by kernel_rfl) (by kernel_rfl) (fun _ _ _ h => h) (Or.inl ⟨by rfl, ?_⟩) hHeld ?_
        rotate_left 1
        · intro wz hSw
          try dsimp only at hSw
          go_simp
          try with_reducible rfl
        try simp only [Act.put, List.setIfInBounds_toArray, List.set_cons_zero, List.set_cons_succ]
        refine wpAnyH_take (i := 1) (oi := { dst := some 44, op := Op.nilCheck (Operand.tmp 43), type := 0, pos := "watch.go:65", after := #[{ on := 0, ground := Ground.data }], guard := none }) (v := ?_) rfl (by kernel_rfl) (by kernel_rfl) (by kernel_rfl) (fun _ _ _ h => h) (Or.inl ⟨by rfl, ?_⟩) hHeld ?_
        rotate_left 1
        · intro wz hSw
          try dsimp only at hSw
          go_simp
          try with_reducible rfl
        try simp only [Act.put, List.setIfInBounds_toArray, List.set_cons_zero, List.set_cons_succ]
        refine wpAnyH_take (i := 2) (oi := { dst := some 45, op := Op.fieldAddr 76 (Operand.tmp 44) 1, type := 0, pos := "watch.go:65", after := #[{ on := 1, ground := Ground.data }], guard := none }) (v := ?_) rfl (by kernel_rfl) (by kernel_rfl) (by kernel_rfl) (fun _ _ _ h => h) (Or.inl ⟨by rfl, ?_⟩) hHeld ?_
        rotate_left 1
        · intro wz hSw
          try dsimp only at hSw
          go_simp
          try with_reducible rfl
        try simp only [Act.put, List.setIfInBounds_toArray, List.set_cons_zero, List.set_cons_succ]
        refine wpAnyH_take (i := 3) (oi := { dst := some 46, op := Op.load 38 (Operand.tmp 45), type := 38, pos := "watch.go:65", after := #[{ on := 2, ground := Ground.data }], guard := none }) (v := ?_) rfl (by kernel_rfl) (by kernel_rfl) (by kernel_rfl) (fun _ _ _ h => h) (Or.inl ⟨by rfl, ?_⟩) hHeld ?_
        rotate_left 1
        · intro wz hSw
          try dsimp only at hSw
          go_simp
          try with_reducible rfl
        try simp only [Act.put, List.setIfInBounds_toArray, List.set_cons_zero, List.set_cons_succ]
        refine wpAnyH_take (i := 4) (oi := { dst := some 47, op := Op.move (Operand.tmp 0), type := 74, pos := "watch.go:65", after := #[], guard := none }) (v := ?_) rfl (by kernel_rfl) (by kernel_rfl) (by kernel_rfl) (fun _ _ _ h => h) (Or.inl ⟨by rfl, ?_⟩) hHeld ?_
        rotate_left 1
        · intro wz hSw
          try dsimp only at hSw
          go_simp
          try with_reducible rfl
        try simp only [Act.put, List.setIfInBounds_toArray, List.set_cons_zero, List.set_cons_succ]
        refine wpAnyH_take (i := 5) (oi := { dst := some 48, op := Op.nilCheck (Operand.tmp 47), type := 0, pos := "watch.go:65", after := #[{ on := 4, ground := Ground.data }], guard := none }) (v := ?_) rfl (by kernel_rfl) (by kernel_rfl) (by kernel_rfl) (fun _ _ _ h => h) (Or.inl ⟨by rfl, ?_⟩) hHeld ?_
        rotate_left 1
        · intro wz hSw
          try dsimp only at hSw
          go_simp
          try with_reducible rfl
        try simp only [Act.put, List.setIfInBounds_toArray, List.set_cons_zero, List.set_cons_succ]
        refine wpAnyH_take (i := 6) (oi := { dst := some 49, op := Op.fieldAddr 76 (Operand.tmp 48) 2, type := 0, pos := "watch.go:65", after := #[{ on := 5, ground := Ground.data }], guard := none }) (v := ?_) rfl (by kernel_rfl) (by kernel_rfl) (by kernel_rfl) (fun _ _ _ h => h) (Or.inl ⟨by rfl, ?_⟩) hHeld ?_
        rotate_left 1
        · intro wz hSw
          try dsimp only at hSw
          go_simp
          try with_reducible rfl
        try simp only [Act.put, List.setIfInBounds_toArray, List.set_cons_zero, List.set_cons_succ]
        refine wpAnyH_take (i := 7) (oi := { dst := some 50, op := Op.load 3 (Operand.tmp 49), type := 3, pos := "watch.go:65", after := #[{ on := 6, ground := Ground.data }], guard := none }) (v := ?_) rfl (by kernel_rfl) (by kernel_rfl) (by kernel_rfl) (fun _ _ _ h => h) (Or.inl ⟨by rfl, ?_⟩) hHeld ?_
        rotate_left 1
        · intro wz hSw
          try dsimp only at hSw
          go_simp
          try with_reducible rfl
        try simp only [Act.put, List.setIfInBounds_toArray, List.set_cons_zero, List.set_cons_succ]
        refine wpAnyH_take (i := 8) (oi := { dst := some 51, op := Op.move (Operand.tmp 0), type := 74, pos := "watch.go:65", after := #[], guard := none }) (v := ?_) rfl (by kernel_rfl) (by kernel_rfl) (by kernel_rfl) (fun _ _ _ h => h) (Or.inl ⟨by rfl, ?_⟩) hHeld ?_
        rotate_left 1
        · intro wz hSw
          try dsimp only at hSw
          go_simp
          try with_reducible rfl
        try simp only [Act.put, List.setIfInBounds_toArray, List.set_cons_zero, List.set_cons_succ]
        refine wpAnyH_take (i := 9) (oi := { dst := some 52, op := Op.nilCheck (Operand.tmp 51), type := 0, pos := "watch.go:65", after := #[{ on := 8, ground := Ground.data }], guard := none }) (v := ?_) rfl (by kernel_rfl) (by kernel_rfl) (by kernel_rfl) (fun _ _ _ h => h) (Or.inl ⟨by rfl, ?_⟩) hHeld ?_
        rotate_left 1
        · intro wz hSw
          try dsimp only at hSw
          go_simp
          try with_reducible rfl
        try simp only [Act.put, List.setIfInBounds_toArray, List.set_cons_zero, List.set_cons_succ]
        refine wpAnyH_take (i := 10) (oi := { dst := some 53, op := Op.fieldAddr 76 (Operand.tmp 52) 3, type := 0, pos := "watch.go:65", after := #[{ on := 9, ground := Ground.data }], guard := none }) (v := ?_) rfl (by kernel_rfl) (by kernel_rfl) (by kernel_rfl) (fun _ _ _ h => h) (Or.inl ⟨by rfl, ?_⟩) hHeld ?_
        rotate_left 1
        · intro wz hSw
          try dsimp only at hSw
          go_simp
          try with_reducible rfl
        try simp only [Act.put, List.setIfInBounds_toArray, List.set_cons_zero, List.set_cons_succ]
        refine wpAnyH_take (i := 11) (oi := { dst := some 54, op := Op.load 3 (Operand.tmp 53), type := 3, pos := "watch.go:65", after := #[{ on := 10, ground := Ground.data }], guard := none }) (v := ?_) rfl (by kernel_rfl) (by kernel_rfl) (by kernel_rfl) (fun _ _ _ h => h) (Or.inl ⟨by rfl, ?_⟩) hHeld ?_
        rotate_left 1
        · intro wz hSw
          try dsimp only at hSw
          go_simp
          try with_reducible rfl
        try simp only [Act.put, List.setIfInBounds_toArray, List.set_cons_zero, List.set_cons_succ]
        refine wpAnyH_take (i := 12) (oi := { dst := some 55, op := Op.binOp BinOp.add 3 (Operand.tmp 50) (Operand.tmp 54) 3, type := 3, pos := "watch.go:65", after := #[{ on := 7, ground := Ground.data }, { on := 11, ground := Ground.data }], guard := none }) (v := ?_) rfl (by kernel_rfl) (by kernel_rfl) (by kernel_rfl) (fun _ _ _ h => h) (Or.inl ⟨by rfl, ?_⟩) hHeld ?_
        rotate_left 1
        · intro wz hSw
          try dsimp only at hSw
          go_simp
          try with_reducible rfl
        try simp only [Act.put, List.setIfInBounds_toArray, List.set_cons_zero, List.set_cons_succ]
        refine wpAnyH_take (i := 13) (oi := { dst := some 56, op := Op.move (Operand.tmp 0), type := 74, pos := "watch.go:65", after := #[], guard := none }) (v := ?_) rfl (by kernel_rfl) (by kernel_rfl) (by kernel_rfl) (fun _ _ _ h => h) (Or.inl ⟨by rfl, ?_⟩) hHeld ?_
        rotate_left 1
        · intro wz hSw
          try dsimp only at hSw
          go_simp
          try with_reducible rfl
        try simp only [Act.put, List.setIfInBounds_toArray, List.set_cons_zero, List.set_cons_succ]
        refine wpAnyH_take (i := 14) (oi := { dst := some 57, op := Op.nilCheck (Operand.tmp 56), type := 0, pos := "watch.go:65", after := #[{ on := 13, ground := Ground.data }], guard := none }) (v := ?_) rfl (by kernel_rfl) (by kernel_rfl) (by kernel_rfl) (fun _ _ _ h => h) (Or.inl ⟨by rfl, ?_⟩) hHeld ?_
        rotate_left 1
        · intro wz hSw
          try dsimp only at hSw
          go_simp
          try with_reducible rfl
        try simp only [Act.put, List.setIfInBounds_toArray, List.set_cons_zero, List.set_cons_succ]
        refine wpAnyH_take (i := 15) (oi := { dst := some 58, op := Op.fieldAddr 76 (Operand.tmp 57) 1, type := 0, pos := "watch.go:65", after := #[{ on := 14, ground := Ground.data }], guard := none }) (v := ?_) rfl (by kernel_rfl) (by kernel_rfl) (by kernel_rfl) (fun _ _ _ h => h) (Or.inl ⟨by rfl, ?_⟩) hHeld ?_
        rotate_left 1
        · intro wz hSw
          try dsimp only at hSw
          go_simp
          try with_reducible rfl
        try simp only [Act.put, List.setIfInBounds_toArray, List.set_cons_zero, List.set_cons_succ]
        refine wpAnyH_take (i := 16) (oi := { dst := some 59, op := Op.load 38 (Operand.tmp 58), type := 38, pos := "watch.go:65", after := #[{ on := 15, ground := Ground.data }], guard := none }) (v := ?_) rfl (by kernel_rfl) (by kernel_rfl) (by kernel_rfl) (fun _ _ _ h => h) (Or.inl ⟨by rfl, ?_⟩) hHeld ?_
        rotate_left 1
        · intro wz hSw
          try dsimp only at hSw
          go_simp
          try with_reducible rfl
        try simp only [Act.put, List.setIfInBounds_toArray, List.set_cons_zero, List.set_cons_succ]
        refine wpAnyH_take (i := 17) (oi := { dst := some 60, op := Op.call { callee := Callee.builtin Builtin.len, args := #[Operand.tmp 59], argTypes := #[38] }, type := 3, pos := "watch.go:65", after := #[{ on := 16, ground := Ground.data }], guard := none }) (v := ?_) rfl (by kernel_rfl) (by kernel_rfl) (by kernel_rfl) (fun _ _ _ h => h) (Or.inl ⟨by rfl, ?_⟩) hHeld ?_
        rotate_left 1
        · intro wz hSw
          try dsimp only at hSw
          go_simp
          try with_reducible rfl
        try simp only [Act.put, List.setIfInBounds_toArray, List.set_cons_zero, List.set_cons_succ]
        refine wpAnyH_take (i := 18) (oi := { dst := some 61, op := Op.binOp BinOp.rem 3 (Operand.tmp 55) (Operand.tmp 60) 3, type := 3, pos := "watch.go:65", after := #[{ on := 12, ground := Ground.data }, { on := 17, ground := Ground.data }], guard := none }) (v := ?_) rfl (by kernel_rfl) (by kernel_rfl) (by kernel_rfl) (fun _ _ _ h => h) (Or.inl ⟨by rfl, ?_⟩) hHeld ?_
        rotate_left 1
        · intro wz hSw
          try dsimp only at hSw
          go_simp
          try with_reducible rfl
        try simp only [Act.put, List.setIfInBounds_toArray, List.set_cons_zero, List.set_cons_succ]
        refine wpAnyH_take (i := 19) (oi := { dst := some 62, op := Op.load 30 (Operand.tmp 3), type := 30, pos := "watch.go:65", after := #[], guard := none }) (v := ?_) rfl (by kernel_rfl) (by kernel_rfl) (by kernel_rfl) (fun _ _ _ h => h) (Or.inl ⟨by rfl, ?_⟩) hHeld ?_
        rotate_left 1
        · intro wz hSw
          try dsimp only at hSw
          go_simp
          try with_reducible rfl
        try simp only [Act.put, List.setIfInBounds_toArray, List.set_cons_zero, List.set_cons_succ]
        refine wpAnyH_ready (rs := [20]) (by kernel_rfl) (by simp) ?_
        refine AllReadyH.cons (o := { dst := some 63, op := Op.call { callee := Callee.value (Operand.func 46), args := #[Operand.tmp 62], argTypes := #[30] }, type := 30, pos := "watch.go:65", after := #[{ on := 19, ground := Ground.data }], guard := none }) rfl (fun K hK => ?_) AllReadyH.nil
        go_simp
        refine (HCP.out).mono ?_
        rintro e w8 ⟨h', rfl, he', hok', hb8, hfr, hown'⟩
        have HFR := Lib.hid hfr
        clear hfr
        unfold Hv.v
        have j8 := HBR1.out.below hb8 HBR1.out.lt
        have hs8 := HRI1.out.1
        have hnew : ∀ q, q < 6 → ∃ v, w8.cell? ⟨rg, p * 6 + q, none⟩ = some v := fun q hq => ⟨cs[p * 6 + q]'(by omega), by rw [j8.cell]; exact Array.getElem?_eq_getElem _⟩
        obtain ⟨v0, n0⟩ := hnew 0 (by omega)
        obtain ⟨v1, n1⟩ := hnew 1 (by omega)
        obtain ⟨v2, n2⟩ := hnew 2 (by omega)
        obtain ⟨v3, n3⟩ := hnew 3 (by omega)
        obtain ⟨v4, n4⟩ := hnew 4 (by omega)
        obtain ⟨v5, n5⟩ := hnew 5 (by omega)
        simp only [Nat.add_zero] at n0
        have m0 := j8.frozen (p * 6)
        have m1 := j8.frozen (p * 6 + 1)
        have m2 := j8.frozen (p * 6 + 2)
        have m3 := j8.frozen (p * 6 + 3)
        have m4 := j8.frozen (p * 6 + 4)
        have m5 := j8.frozen (p * 6 + 5)
        have HB8 := Lib.hid hb8
        have HE' := Lib.hid he'
        have HOW' := Lib.hid hown'
        have HOK' := Lib.hid hok'
        clear hnew j8 he' hok' hown' hs8
        refine hK.out _ _ ((show PB g w.heap.size (.slice (some ⟨rg, 0, none⟩) rn rn) f wait.length h w8 from PB.keep hHeld (fun i => hb8.cell (show g < W1.heap.size from HBL1.out.lt)) (fun i => hb8.cell (show w.heap.size < W1.heap.size from HBX.out.lt)))) (fun hHeld => ?_)
        clear hK K
        try simp only [Act.put, List.setIfInBounds_toArray, List.set_cons_zero, List.set_cons_succ]
        refine wpAnyH_take (i := 21) (oi := { dst := some 64, op := Op.indexAddr 38 (Operand.tmp 46) (Operand.tmp 61), type := 0, pos := "watch.go:65", after := #[{ on := 3, ground := Ground.data }, { on := 18, ground := Ground.data }, { on := 0, ground := Ground.phase }, { on := 1, ground := Ground.phase }, { on := 2, ground := Ground.phase }, { on := 3, ground := Ground.phase }, { on := 4, ground := Ground.phase }, { on := 5, ground := Ground.phase }, { on := 6, ground := Ground.phase }, { on := 7, ground := Ground.phase }, { on := 8, ground := Ground.phase }, { on := 9, ground := Ground.phase }, { on := 10, ground := Ground.phase }, { on := 11, ground := Ground.phase }, { on := 12, ground := Ground.phase }, { on := 13, ground := Ground.phase }, { on := 14, ground := Ground.phase }, { on := 15, ground := Ground.phase }, { on := 16, ground := Ground.phase }, { on := 17, ground := Ground.phase }, { on := 18, ground := Ground.phase }, { on := 19, ground := Ground.phase }, { on := 20, ground := Ground.phase }], guard := none }) (v := ?_) rfl (by kernel_rfl) (by kernel_rfl) (by kernel_rfl) (fun _ _ _ h => h) (Or.inl ⟨by rfl, ?_⟩) hHeld ?_
        rotate_left 1
        · intro wz hSw
          try dsimp only at hSw
          go_simp
          try with_reducible rfl
        try simp only [Act.put, List.setIfInBounds_toArray, List.set_cons_zero, List.set_cons_succ]
        refine wpAnyH_ready (rs := [22]) (by kernel_rfl) (by simp) ?_
        refine AllReadyH.cons (o := { dst := none, op := Op.store 30 (Operand.tmp 64) (Operand.tmp 63), type := 0, pos := "watch.go:65", after := #[{ on := 21, ground := Ground.data }, { on := 20, ground := Ground.data }, { on := 20, ground := Ground.chain }, { on := 0, ground := Ground.phase }, { on := 1, ground := Ground.phase }, { on := 2, ground := Ground.phase }, { on := 3, ground := Ground.phase }, { on := 4, ground := Ground.phase }, { on := 5, ground := Ground.phase }, { on := 6, ground := Ground.phase }, { on := 7, ground := Ground.phase }, { on := 8, ground := Ground.phase }, { on := 9, ground := Ground.phase }, { on := 10, ground := Ground.phase }, { on := 11, ground := Ground.phase }, { on := 12, ground := Ground.phase }, { on := 13, ground := Ground.phase }, { on := 14, ground := Ground.phase }, { on := 15, ground := Ground.phase }, { on := 16, ground := Ground.phase }, { on := 17, ground := Ground.phase }, { on := 18, ground := Ground.phase }, { on := 19, ground := Ground.phase }, { on := 20, ground := Ground.phase }], guard := none }) rfl (fun K hK => ?_) AllReadyH.nil
        go_simp
        refine hK.out _ _ ((show PB g w.heap.size (.slice (some ⟨rg, 0, none⟩) rn rn) f wait.length h (set6 w8 rg p (.int .i64 h'.e.kind) (.string h'.e.key) (.slice h'.A h'.e.val.length h'.c) (.int .u64 h'.e.birth) (.int .u64 h'.e.due) (.int .u64 h'.e.at_)) from PB.keep (show PB g w.heap.size (.slice (some ⟨rg, 0, none⟩) rn rn) f wait.length h w8 from hHeld) (fun i => set6_cell hgr1 _ _ _ _ _ _) (fun i => set6_cell hbr1 _ _ _ _ _ _))) (fun hHeld => ?_)
        clear hK K
        try simp only [Act.put, List.setIfInBounds_toArray, List.set_cons_zero, List.set_cons_succ]
        refine wpAnyH_done (by kernel_rfl) ?_ _
        refine NoPanic.normal ?_
        have c6 : (set6 w8 rg p (.int .i64 h'.e.kind) (.string h'.e.key) (.slice h'.A h'.e.val.length h'.c) (.int .u64 h'.e.birth) (.int .u64 h'.e.due) (.int .u64 h'.e.at_)).cell? ⟨g, 6, none⟩ = some (.int .i64 wait.length) := (show PB g w.heap.size (.slice (some ⟨rg, 0, none⟩) rn rn) f wait.length h (set6 w8 rg p (.int .i64 h'.e.kind) (.string h'.e.key) (.slice h'.A h'.e.val.length h'.c) (.int .u64 h'.e.birth) (.int .u64 h'.e.due) (.int .u64 h'.e.at_)) from hHeld).2.2.1
        have f6 := (set6_far p (HBL1.out.below HB8.out HBL1.out.lt) hgr1 (.int .i64 h'.e.kind) (.string h'.e.key) (.slice h'.A h'.e.val.length h'.c) (.int .u64 h'.e.birth) (.int .u64 h'.e.due) (.int .u64 h'.e.at_)).frozen 6
        have hgot := HT1.out.drew.got (h' := h') (p := p) HB8.out HPP.out hlt ⟨own_base HOW'.out HBASE.out, HOK'.out.key, by rw [HE'.out]; exact hlen⟩ rfl
        have HGOT := Lib.hid hgot
        have hmi : (wait.length : Int) ≤ 1000 := by omega
        clear hgot n0 n1 n2 n3 n4 n5 m0 m1 m2 m3 m4 m5 hHeld hmod hmod' hw1
        unfold set6 at c6 f6 HGOT
        go_wp2
        go_ret
        refine ⟨(⟨rl, rg, rn, f, wait, lost⟩ : Wt).got h', true, rfl, HGOT.out.1, ?_, rfl, Or.inl ⟨rfl, rfl⟩, ?_⟩
        · have h0 : Chg [g, rg] w W1 := by rw [← hWd]; exact (HC0.out.mono (fun x hx => by cases hx)).drew
          exact h0.drew.trans HGOT.out.2 (fun x hx => Or.inl hx)
        · unfold PutsTo
          rw [if_neg HF.out]
          exact ⟨rfl, ⟨h', HE'.out, fun ad ha => Nat.le_trans HBS.out (HFR.out ad ha), rfl⟩, rfl⟩
set_option maxRecDepth 100000 in
set_option maxHeartbeats 4000000 in
theorem put_old (w : World) (base g : Nat) (t : Wt) (h : Hv) (ht : WtAt w base g t) (hfull : t.wait.length = t.rl.room) (hold : t.rl.oldest = true) (hl : t.lost ≤ 1000000000) (hok : h.Ok w w.heap.size) (hlen : h.e.val.length ≤ 65536) (hbase : base ≤ w.heap.size)
    (hap : 0 < h.e.val.length → ∀ a, h.A = some a → a.block ≠ g ∧ a.block ≠ t.rg) (hrg : t.rg < w.heap.size) :
    Calls Try.prog 36 #[.pointer (some ⟨g, 0, none⟩), h.v] w (putTo w base g t h) := by
  have HAP := Lib.hid hap
  have HBN : Hid (w.heap.size ≠ g ∧ w.heap.size ≠ t.rg) := Lib.hid ⟨by have := ht.blk.lt; omega, by omega⟩
  obtain ⟨rl, rg, rn, f, wait, lost⟩ := t
  have hmany := ht.many
  have hroom := ht.room
  have hr1 := ht.room2
  have hr0 := ht.room1
  simp only at hmany hroom hr1 hr0 hfull hold hl
  have hrn : rn ≠ 0 := by omega
  have hrr : rl.room ≤ rn := by omega
  have hblk := ht.blk.alloc (.cells h.cells.toArray 30)
  unfold Wt.cells Wt.ring at hblk
  simp only [if_neg hrn] at hblk
  have c2 := hblk.cell 2
  have c3 := hblk.cell 3
  have c6 := hblk.cell 6
  have c7 := hblk.cell 7
  have f7 := hblk.frozen 7
  simp only [List.getElem?_toArray, List.getElem?_cons_zero, List.getElem?_cons_succ] at c2 c3 c6 c7
  rw [hfull] at c6
  rw [hold] at c3
  obtain ⟨h0, rest, hwr⟩ : ∃ h0 rest, wait = h0 :: rest := by
    cases wait with
    | nil => simp at hfull; omega
    | cons a b => exact ⟨a, b, rfl⟩
  have HC0 := Lib.hid (((Chg.refl [] w).alloc (.cells h.cells.toArray 30)).drew)
  have HT0 := Lib.hid (ht.more HC0.out)
  have HCC := Lib.hid ((HC0.out.mono (O' := [g]) (fun x hx => by cases hx)).setCell (p := ⟨g, 7, none⟩) (Or.inl (by simp)) (.int .i64 ((lost : Int) + 1)))
  have HBX0 := Lib.hid ((Blk.new w 30 h.cells.toArray).drew.far (p := ⟨g, 7, none⟩) HBN.out.1 (.int .i64 ((lost : Int) + 1)))
  have HOK0 := Lib.hid (hok.chg HCC.out (fun hp a ha => by simp only [List.mem_cons, List.not_mem_nil, or_false]; exact (HAP.out hp a ha).1))
  have HF := Lib.hid hfull
  have HO := Lib.hid hold
  have HW0 : Hid (w.heap.size < ((w.alloc (.cells h.cells.toArray 30)).drew.setCell ⟨g, 7, none⟩ (.int .i64 ((lost : Int) + 1))).heap.size) := Lib.hid (by simp)
  have hlr : rest.length < rn := by rw [hwr] at hfull; simp at hfull; omega
  have HWR := Lib.hid hwr
  have hWe : ((w.alloc (.cells h.cells.toArray 30)).drew.setCell ⟨g, 7, none⟩ (.int .i64 ((lost : Int) + 1))) = ((w.alloc (.cells h.cells.toArray 30)).setCell ⟨g, 7, none⟩ (.int .i64 ((lost : Int) + 1))).drew := rfl
  simp only at HT0
  rw [hWe] at HT0 HCC HBX0 HOK0 HW0
  clear hWe
  clear hblk hok hap hrg hfull hold ht hwr
  simp only [Hv.cells] at c2 c3 c6 c7 f7 HC0 HT0 HCC HBX0 HOK0 HW0
  unfold Hv.v
  go_enter Try.func36, Try.ntmps36
  go_wp2
  go_region
  all_goals
    go_wp2_with fail
    generalize ((w.alloc (.cells #[.int .i64 h.e.kind, .string h.e.key, .slice h.A h.e.val.length h.c, .int .u64 h.e.birth, .int .u64 h.e.due, .int .u64 h.e.at_] 30)).setCell ⟨g, 7, none⟩ (.int .i64 ((lost : Int) + 1))).drew = W0 at *
    clear c2 c3 c6 c7 f7
    have HTK := Lib.hid (take_any W0 base g (Wt.more ⟨rl, rg, rn, f, wait, lost⟩) h0 rest HT0.out HWR.out)
    refine HTK.out.mono ?_
    rintro e W1 ⟨rfl, ht1, hch⟩
    simp only [Wt.more, Wt.taken] at ht1 hch
    obtain ⟨f1, hf1e⟩ : ∃ f1 : Nat, (f + 1) % rn = f1 := ⟨_, rfl⟩
    rw [hf1e] at ht1
    have hb1 := ht1.blk
    unfold Wt.cells Wt.ring at hb1
    simp only [if_neg hrn] at hb1
    have c2 := hb1.cell 2
    have c4 := hb1.cell 4
    simp only [List.getElem?_toArray, List.getElem?_cons_zero, List.getElem?_cons_succ] at c2 c4
    have hgrow' : ¬ (rn : Int) < (rl.room : Int) := by omega
    have HCH := Lib.hid hch
    have HT1 := Lib.hid ht1.drew
    have HBX := Lib.hid (hch.blk HBX0.out (by simp only [List.mem_cons, List.not_mem_nil, or_false, not_or]; exact HBN.out)).drew
    have HOK1 := Lib.hid ((HOK0.out).chg hch (fun hp a ha => by simp only [List.mem_cons, List.not_mem_nil, or_false, not_or]; exact HAP.out hp a ha)).drew'
    have HBXN : Hid (w.heap.size ≠ rg) := Lib.hid HBN.out.2
    have HBS : Hid (w.heap.size ≤ W1.drew.drew.heap.size) := Lib.hid (Nat.le_trans (Nat.le_of_lt HW0.out) hch.size)
    have HBASE : Hid (base ≤ W1.drew.drew.heap.size) := Lib.hid (Nat.le_trans hbase (Nat.le_trans (Nat.le_of_lt HW0.out) hch.size))
    clear hb1 ht1 hch hf1e
    go_wp2
    go_region
    all_goals
      have hlt : rest.length < rn := by omega
      have HCD : Hid (Chg [g, rg] W0 W1.drew) := Lib.hid HCH.out.drew
      clear c2 c4 HCH HTK
      generalize W1.drew = W2 at *
      obtain ⟨p, hp⟩ : ∃ p : Nat, (f1 + rest.length) % rn = p := ⟨_, rfl⟩
      have hpl : p < rn := by rw [← hp]; exact Nat.mod_lt _ (by omega)
      have hrn1 : rn ≠ 0 := by omega
      have hr11 : rn ≤ 1000 := Nat.le_trans HT1.out.room HT1.out.room2
      have hf1 : f1 < rn := HT1.out.hf hrn1
      obtain ⟨cs, hbr, hring⟩ := HT1.out.ring hrn1
      have hbl1 := HT1.out.blk
      unfold Wt.cells Wt.ring at hbl1
      simp only [if_neg hrn1] at hbl1
      have hgr1 : g ≠ rg := hbl1.ne_ hbr (by decide)
      have hbr1 : w.heap.size ≠ rg := HBXN.out
      have HBL1 := Lib.hid hbl1.drew
      have HBR1 := Lib.hid hbr.drew
      have HRI1 := Lib.hid hring
      have hS : PB g w.heap.size (.slice (some ⟨rg, 0, none⟩) rn rn) f1 rest.length h W2.drew := ⟨hbl1.cell 4, hbl1.cell 5, hbl1.cell 6, HBX.out.cell 0, HBX.out.cell 1, HBX.out.cell 2, HBX.out.cell 3, HBX.out.cell 4, HBX.out.cell 5⟩
      have HS := Lib.hid hS
      have hcp := copied_any h W2.drew HOK1.out.drew' (by omega)
      unfold Hv.v at hcp
      have HCP := Lib.hid hcp
      have hp0 : (0 : Int) ≤ (p : Int) := Int.natCast_nonneg _
      have hp1 : (p : Int) < (rn : Int) := by omega
      have hw1 : IntKind.i64.wrap ((f1 : Int) + (rest.length : Int)) = (f1 : Int) + (rest.length : Int) := IntWalk.i64_in _ (by omega)
      have hmod : Int.tmod ((f1 : Int) + (rest.length : Int)) (rn : Int) = (p : Int) := by rw [Int.tmod_eq_emod_of_nonneg (by omega), ← hp]; push_cast; rfl
      have hmod' : ((f1 : Int) + (rest.length : Int)) % (rn : Int) = (p : Int) := by rw [← hp]; push_cast; rfl
      have hr0 : ¬ (rn : Int) = 0 := by omega
      have HPP := Lib.hid hp
      clear hp hbr hring hbl1 hS hcp
      go_wp2
      refine wp_region_noPanic ?_
      refine wp_region_held_drew (S := fun w' => w'.cell? ⟨g, 4, none⟩ = some (.slice (some ⟨rg, 0, none⟩) rn rn) ∧ w'.cell? ⟨g, 5, none⟩ = some (.int .i64 f1) ∧ w'.cell? ⟨g, 6, none⟩ = some (.int .i64 rest.length) ∧ w'.cell? ⟨w.heap.size, 0, none⟩ = some (.int .i64 h.e.kind) ∧ w'.cell? ⟨w.heap.size, 1, none⟩ = some (.string h.e.key) ∧ w'.cell? ⟨w.heap.size, 2, none⟩ = some (.slice h.A h.e.val.length h.c) ∧ w'.cell? ⟨w.heap.size, 3, none⟩ = some (.int .u64 h.e.birth) ∧ w'.cell? ⟨w.heap.size, 4, none⟩ = some (.int .u64 h.e.due) ∧ w'.cell? ⟨w.heap.size, 5, none⟩ = some (.int .u64 h.e.at_)) (by kernel_rfl) HS.out (fun hHeld => ?_)
      refine wpAnyH_take (i := 0) (oi := { dst := some 43, op := Op.move (Operand.tmp 0), type := 74, pos := "watch.go:65", after := #[], guard := none }) (v := ?_) rfl (by kernel_rfl) (by kernel_rfl) (by kernel_rfl) (fun _ _ _ h => h) (Or.inl ⟨by rfl, ?_⟩) hHeld ?_
      rotate_left 1
      · intro wz hSw
        try dsimp only at hSw
        go_simp
        try with_reducible rfl
      try simp only [Act.put, List.setIfInBounds_toArray, List.set_cons_zero, List.set_cons_succ]
      refine wpAnyH_take (i := 1) (oi := { dst := some 44, op := Op.nilCheck (Operand.tmp 43), type := 0, pos := "watch.go:65", after := #[{ on := 0, ground := Ground.data }], guard := none }) (v := ?_) rfl (by kernel_rfl) (by kernel_rfl) (by kernel_rfl) (fun _ _ _ h => h) (Or.inl ⟨by rfl, ?_⟩) hHeld ?_
      rotate_left 1
      · intro wz hSw
        try dsimp only at hSw
        go_simp
        try with_reducible rfl
      try simp only [Act.put, List.setIfInBounds_toArray, List.set_cons_zero, List.set_cons_succ]
      refine wpAnyH_take (i := 2) (oi := { dst := some 45, op := Op.fieldAddr 76 (Operand.tmp 44) 1, type := 0, pos := "watch.go:65", after := #[{ on := 1, ground := Ground.data }], guard := none }) (v := ?_) rfl (by kernel_rfl) (by kernel_rfl) (by kernel_rfl) (fun _ _ _ h => h) (Or.inl ⟨by rfl, ?_⟩) hHeld ?_
      rotate_left 1
      · intro wz hSw
        try dsimp only at hSw
        go_simp
        try with_reducible rfl
      try simp only [Act.put, List.setIfInBounds_toArray, List.set_cons_zero, List.set_cons_succ]
      refine wpAnyH_take (i := 3) (oi := { dst := some 46, op := Op.load 38 (Operand.tmp 45), type := 38, pos := "watch.go:65", after := #[{ on := 2, ground := Ground.data }], guard := none }) (v := ?_) rfl (by kernel_rfl) (by kernel_rfl) (by kernel_rfl) (fun _ _ _ h => h) (Or.inl ⟨by rfl, ?_⟩) hHeld ?_
      rotate_left 1
      · intro wz hSw
        try dsimp only at hSw
        go_simp
        try with_reducible rfl
      try simp only [Act.put, List.setIfInBounds_toArray, List.set_cons_zero, List.set_cons_succ]
      refine wpAnyH_take (i := 4) (oi := { dst := some 47, op := Op.move (Operand.tmp 0), type := 74, pos := "watch.go:65", after := #[], guard := none }) (v := ?_) rfl (by kernel_rfl) (by kernel_rfl) (by kernel_rfl) (fun _ _ _ h => h) (Or.inl ⟨by rfl, ?_⟩) hHeld ?_
      rotate_left 1
      · intro wz hSw
        try dsimp only at hSw
        go_simp
        try with_reducible rfl
      try simp only [Act.put, List.setIfInBounds_toArray, List.set_cons_zero, List.set_cons_succ]
      refine wpAnyH_take (i := 5) (oi := { dst := some 48, op := Op.nilCheck (Operand.tmp 47), type := 0, pos := "watch.go:65", after := #[{ on := 4, ground := Ground.data }], guard := none }) (v := ?_) rfl (by kernel_rfl) (by kernel_rfl) (by kernel_rfl) (fun _ _ _ h => h) (Or.inl ⟨by rfl, ?_⟩) hHeld ?_
      rotate_left 1
      · intro wz hSw
        try dsimp only at hSw
        go_simp
        try with_reducible rfl
      try simp only [Act.put, List.setIfInBounds_toArray, List.set_cons_zero, List.set_cons_succ]
      refine wpAnyH_take (i := 6) (oi := { dst := some 49, op := Op.fieldAddr 76 (Operand.tmp 48) 2, type := 0, pos := "watch.go:65", after := #[{ on := 5, ground := Ground.data }], guard := none }) (v := ?_) rfl (by kernel_rfl) (by kernel_rfl) (by kernel_rfl) (fun _ _ _ h => h) (Or.inl ⟨by rfl, ?_⟩) hHeld ?_
      rotate_left 1
      · intro wz hSw
        try dsimp only at hSw
        go_simp
        try with_reducible rfl
      try simp only [Act.put, List.setIfInBounds_toArray, List.set_cons_zero, List.set_cons_succ]
      refine wpAnyH_take (i := 7) (oi := { dst := some 50, op := Op.load 3 (Operand.tmp 49), type := 3, pos := "watch.go:65", after := #[{ on := 6, ground := Ground.data }], guard := none }) (v := ?_) rfl (by kernel_rfl) (by kernel_rfl) (by kernel_rfl) (fun _ _ _ h => h) (Or.inl ⟨by rfl, ?_⟩) hHeld ?_
      rotate_left 1
      · intro wz hSw
        try dsimp only at hSw
        go_simp
        try with_reducible rfl
      try simp only [Act.put, List.setIfInBounds_toArray, List.set_cons_zero, List.set_cons_succ]
      refine wpAnyH_take (i := 8) (oi := { dst := some 51, op := Op.move (Operand.tmp 0), type := 74, pos := "watch.go:65", after := #[], guard := none }) (v := ?_) rfl (by kernel_rfl) (by kernel_rfl) (by kernel_rfl) (fun _ _ _ h => h) (Or.inl ⟨by rfl, ?_⟩) hHeld ?_
      rotate_left 1
      · intro wz hSw
        try dsimp only at hSw
        go_simp
        try with_reducible rfl
      try simp only [Act.put, List.setIfInBounds_toArray, List.set_cons_zero, List.set_cons_succ]
      refine wpAnyH_take (i := 9) (oi := { dst := some 52, op := Op.nilCheck (Operand.tmp 51), type := 0, pos := "watch.go:65", after := #[{ on := 8, ground := Ground.data }], guard := none }) (v := ?_) rfl (by kernel_rfl) (by kernel_rfl) (by kernel_rfl) (fun _ _ _ h => h) (Or.inl ⟨by rfl, ?_⟩) hHeld ?_
      rotate_left 1
      · intro wz hSw
        try dsimp only at hSw
        go_simp
        try with_reducible rfl
      try simp only [Act.put, List.setIfInBounds_toArray, List.set_cons_zero, List.set_cons_succ]
      refine wpAnyH_take (i := 10) (oi := { dst := some 53, op := Op.fieldAddr 76 (Operand.tmp 52) 3, type := 0, pos := "watch.go:65", after := #[{ on := 9, ground := Ground.data }], guard := none }) (v := ?_) rfl (by kernel_rfl) (by kernel_rfl) (by kernel_rfl) (fun _ _ _ h => h) (Or.inl ⟨by rfl, ?_⟩) hHeld ?_
      rotate_left 1
      · intro wz hSw
        try dsimp only at hSw
        go_simp
        try with_reducible rfl
      try simp only [Act.put, List.setIfInBounds_toArray, List.set_cons_zero, List.set_cons_succ]
      refine wpAnyH_take (i := 11) (oi := { dst := some 54, op := Op.load 3 (Operand.tmp 53), type := 3, pos := "watch.go:65", after := #[{ on := 10, ground := Ground.data }], guard := none }) (v := ?_) rfl (by kernel_rfl) (by kernel_rfl) (by kernel_rfl) (fun _ _ _ h => h) (Or.inl ⟨by rfl, ?_⟩) hHeld ?_
      rotate_left 1
      · intro wz hSw
        try dsimp only at hSw
        go_simp
        try with_reducible rfl
      try simp only [Act.put, List.setIfInBounds_toArray, List.set_cons_zero, List.set_cons_succ]
      refine wpAnyH_take (i := 12) (oi := { dst := some 55, op := Op.binOp BinOp.add 3 (Operand.tmp 50) (Operand.tmp 54) 3, type := 3, pos := "watch.go:65", after := #[{ on := 7, ground := Ground.data }, { on := 11, ground := Ground.data }], guard := none }) (v := ?_) rfl (by kernel_rfl) (by kernel_rfl) (by kernel_rfl) (fun _ _ _ h => h) (Or.inl ⟨by rfl, ?_⟩) hHeld ?_
      rotate_left 1
      · intro wz hSw
        try dsimp only at hSw
        go_simp
        try with_reducible rfl
      try simp only [Act.put, List.setIfInBounds_toArray, List.set_cons_zero, List.set_cons_succ]
      refine wpAnyH_take (i := 13) (oi := { dst := some 56, op := Op.move (Operand.tmp 0), type := 74, pos := "watch.go:65", after := #[], guard := none }) (v := ?_) rfl (by kernel_rfl) (by kernel_rfl) (by kernel_rfl) (fun _ _ _ h => h) (Or.inl ⟨by rfl, ?_⟩) hHeld ?_
      rotate_left 1
      · intro wz hSw
        try dsimp only at hSw
        go_simp
        try with_reducible rfl
      try simp only [Act.put, List.setIfInBounds_toArray, List.set_cons_zero, List.set_cons_succ]
      refine wpAnyH_take (i := 14) (oi := { dst := some 57, op := Op.nilCheck (Operand.tmp 56), type := 0, pos := "watch.go:65", after := #[{ on := 13, ground := Ground.data }], guard := none }) (v := ?_) rfl (by kernel_rfl) (by kernel_rfl) (by kernel_rfl) (fun _ _ _ h => h) (Or.inl ⟨by rfl, ?_⟩) hHeld ?_
      rotate_left 1
      · intro wz hSw
        try dsimp only at hSw
        go_simp
        try with_reducible rfl
      try simp only [Act.put, List.setIfInBounds_toArray, List.set_cons_zero, List.set_cons_succ]
      refine wpAnyH_take (i := 15) (oi := { dst := some 58, op := Op.fieldAddr 76 (Operand.tmp 57) 1, type := 0, pos := "watch.go:65", after := #[{ on := 14, ground := Ground.data }], guard := none }) (v := ?_) rfl (by kernel_rfl) (by kernel_rfl) (by kernel_rfl) (fun _ _ _ h => h) (Or.inl ⟨by rfl, ?_⟩) hHeld ?_
      rotate_left 1
      · intro wz hSw
        try dsimp only at hSw
        go_simp
        try with_reducible rfl
      try simp only [Act.put, List.setIfInBounds_toArray, List.set_cons_zero, List.set_cons_succ]
      refine wpAnyH_take (i := 16) (oi := { dst := some 59, op := Op.load 38 (Operand.tmp 58), type := 38, pos := "watch.go:65", after := #[{ on := 15, ground := Ground.data }], guard := none }) (v := ?_) rfl (by kernel_rfl) (by kernel_rfl) (by kernel_rfl) (fun _ _ _ h => h) (Or.inl ⟨by rfl, ?_⟩) hHeld ?_
      rotate_left 1
      · intro wz hSw
        try dsimp only at hSw
        go_simp
        try with_reducible rfl
      try simp only [Act.put, List.setIfInBounds_toArray, List.set_cons_zero, List.set_cons_succ]
      refine wpAnyH_take (i := 17) (oi := { dst := some 60, op := Op.call { callee := Callee.builtin Builtin.len, args := #[Operand.tmp 59], argTypes := #[38] }, type := 3, pos := "watch.go:65", after := #[{ on := 16, ground := Ground.data }], guard := none }) (v := ?_) rfl (by kernel_rfl) (by kernel_rfl) (by kernel_rfl) (fun _ _ _ h => h) (Or.inl ⟨by rfl, ?_⟩) hHeld ?_
      rotate_left 1
      · intro wz hSw
        try dsimp only at hSw
        go_simp
        try with_reducible rfl
      try simp only [Act.put, List.setIfInBounds_toArray, List.set_cons_zero, List.set_cons_succ]
      refine wpAnyH_take (i := 18) (oi := { dst := some 61, op := Op.binOp BinOp.rem 3 (Operand.tmp 55) (Operand.tmp 60) 3, type := 3, pos := "watch.go:65", after := #[{ on := 12, ground := Ground.data }, { on := 17, ground := Ground.data }], guard := none }) (v := ?_) rfl (by kernel_rfl) (by kernel_rfl) (by kernel_rfl) (fun _ _ _ h => h) (Or.inl ⟨by rfl, ?_⟩) hHeld ?_
      rotate_left 1
      · intro wz hSw
        try dsimp only at hSw
        go_simp
        try with_reducible rfl
      try simp only [Act.put, List.setIfInBounds_toArray, List.set_cons_zero, List.set_cons_succ]
      refine wpAnyH_take (i := 19) (oi := { dst := some 62, op := Op.load 30 (Operand.tmp 3), type := 30, pos := "watch.go:65", after := #[], guard := none }) (v := ?_) rfl (by kernel_rfl) (by kernel_rfl) (by kernel_rfl) (fun _ _ _ h => h) (Or.inl ⟨by rfl, ?_⟩) hHeld ?_
      rotate_left 1
      · intro wz hSw
        try dsimp only at hSw
        go_simp
        try with_reducible rfl
      try simp only [Act.put, List.setIfInBounds_toArray, List.set_cons_zero, List.set_cons_succ]
      refine wpAnyH_ready (rs := [20]) (by kernel_rfl) (by simp) ?_
      refine AllReadyH.cons (o := { dst := some 63, op := Op.call { callee := Callee.value (Operand.func 46), args := #[Operand.tmp 62], argTypes := #[30] }, type := 30, pos := "watch.go:65", after := #[{ on := 19, ground := Ground.data }], guard := none }) rfl (fun K hK => ?_) AllReadyH.nil
      go_simp
      refine (HCP.out).mono ?_
      rintro e w8 ⟨h', rfl, he', hok', hb8, hfr, hown'⟩
      have HFR := Lib.hid hfr
      clear hfr
      unfold Hv.v
      have j8 := HBR1.out.below hb8 HBR1.out.lt
      have hs8 := HRI1.out.1
      have hnew : ∀ q, q < 6 → ∃ v, w8.cell? ⟨rg, p * 6 + q, none⟩ = some v := fun q hq => ⟨cs[p * 6 + q]'(by omega), by rw [j8.cell]; exact Array.getElem?_eq_getElem _⟩
      obtain ⟨v0, n0⟩ := hnew 0 (by omega)
      obtain ⟨v1, n1⟩ := hnew 1 (by omega)
      obtain ⟨v2, n2⟩ := hnew 2 (by omega)
      obtain ⟨v3, n3⟩ := hnew 3 (by omega)
      obtain ⟨v4, n4⟩ := hnew 4 (by omega)
      obtain ⟨v5, n5⟩ := hnew 5 (by omega)
      simp only [Nat.add_zero] at n0
      have m0 := j8.frozen (p * 6)
      have m1 := j8.frozen (p * 6 + 1)
      have m2 := j8.frozen (p * 6 + 2)
      have m3 := j8.frozen (p * 6 + 3)
      have m4 := j8.frozen (p * 6 + 4)
      have m5 := j8.frozen (p * 6 + 5)
      have HB8 := Lib.hid hb8
      have HE' := Lib.hid he'
      have HOW' := Lib.hid hown'
      have HOK' := Lib.hid hok'
      clear hnew j8 he' hok' hown' hs8
      refine hK.out _ _ ((show PB g w.heap.size (.slice (some ⟨rg, 0, none⟩) rn rn) f1 rest.length h w8 from PB.keep hHeld (fun i => hb8.cell (show g < W2.heap.size from HBL1.out.lt)) (fun i => hb8.cell (show w.heap.size < W2.heap.size from HBX.out.lt)))) (fun hHeld => ?_)
      clear hK K
      try simp only [Act.put, List.setIfInBounds_toArray, List.set_cons_zero, List.set_cons_succ]
      refine wpAnyH_take (i := 21) (oi := { dst := some 64, op := Op.indexAddr 38 (Operand.tmp 46) (Operand.tmp 61), type := 0, pos := "watch.go:65", after := #[{ on := 3, ground := Ground.data }, { on := 18, ground := Ground.data }, { on := 0, ground := Ground.phase }, { on := 1, ground := Ground.phase }, { on := 2, ground := Ground.phase }, { on := 3, ground := Ground.phase }, { on := 4, ground := Ground.phase }, { on := 5, ground := Ground.phase }, { on := 6, ground := Ground.phase }, { on := 7, ground := Ground.phase }, { on := 8, ground := Ground.phase }, { on := 9, ground := Ground.phase }, { on := 10, ground := Ground.phase }, { on := 11, ground := Ground.phase }, { on := 12, ground := Ground.phase }, { on := 13, ground := Ground.phase }, { on := 14, ground := Ground.phase }, { on := 15, ground := Ground.phase }, { on := 16, ground := Ground.phase }, { on := 17, ground := Ground.phase }, { on := 18, ground := Ground.phase }, { on := 19, ground := Ground.phase }, { on := 20, ground := Ground.phase }], guard := none }) (v := ?_) rfl (by kernel_rfl) (by kernel_rfl) (by kernel_rfl) (fun _ _ _ h => h) (Or.inl ⟨by rfl, ?_⟩) hHeld ?_
      rotate_left 1
      · intro wz hSw
        try dsimp only at hSw
        go_simp
        try with_reducible rfl
      try simp only [Act.put, List.setIfInBounds_toArray, List.set_cons_zero, List.set_cons_succ]
      refine wpAnyH_ready (rs := [22]) (by kernel_rfl) (by simp) ?_
      refine AllReadyH.cons (o := { dst := none, op := Op.store 30 (Operand.tmp 64) (Operand.tmp 63), type := 0, pos := "watch.go:65", after := #[{ on := 21, ground := Ground.data }, { on := 20, ground := Ground.data }, { on := 20, ground := Ground.chain }, { on := 0, ground := Ground.phase }, { on := 1, ground := Ground.phase }, { on := 2, ground := Ground.phase }, { on := 3, ground := Ground.phase }, { on := 4, ground := Ground.phase }, { on := 5, ground := Ground.phase }, { on := 6, ground := Ground.phase }, { on := 7, ground := Ground.phase }, { on := 8, ground := Ground.phase }, { on := 9, ground := Ground.phase }, { on := 10, ground := Ground.phase }, { on := 11, ground := Ground.phase }, { on := 12, ground := Ground.phase }, { on := 13, ground := Ground.phase }, { on := 14, ground := Ground.phase }, { on := 15, ground := Ground.phase }, { on := 16, ground := Ground.phase }, { on := 17, ground := Ground.phase }, { on := 18, ground := Ground.phase }, { on := 19, ground := Ground.phase }, { on := 20, ground := Ground.phase }], guard := none }) rfl (fun K hK => ?_) AllReadyH.nil
      go_simp
      refine hK.out _ _ ((show PB g w.heap.size (.slice (some ⟨rg, 0, none⟩) rn rn) f1 rest.length h (set6 w8 rg p (.int .i64 h'.e.kind) (.string h'.e.key) (.slice h'.A h'.e.val.length h'.c) (.int .u64 h'.e.birth) (.int .u64 h'.e.due) (.int .u64 h'.e.at_)) from PB.keep (show PB g w.heap.size (.slice (some ⟨rg, 0, none⟩) rn rn) f1 rest.length h w8 from hHeld) (fun i => set6_cell hgr1 _ _ _ _ _ _) (fun i => set6_cell hbr1 _ _ _ _ _ _))) (fun hHeld => ?_)
      clear hK K
      try simp only [Act.put, List.setIfInBounds_toArray, List.set_cons_zero, List.set_cons_succ]
      refine wpAnyH_done (by kernel_rfl) ?_ _
      refine NoPanic.normal ?_
      have c6 : (set6 w8 rg p (.int .i64 h'.e.kind) (.string h'.e.key) (.slice h'.A h'.e.val.length h'.c) (.int .u64 h'.e.birth) (.int .u64 h'.e.due) (.int .u64 h'.e.at_)).cell? ⟨g, 6, none⟩ = some (.int .i64 rest.length) := (show PB g w.heap.size (.slice (some ⟨rg, 0, none⟩) rn rn) f1 rest.length h (set6 w8 rg p (.int .i64 h'.e.kind) (.string h'.e.key) (.slice h'.A h'.e.val.length h'.c) (.int .u64 h'.e.birth) (.int .u64 h'.e.due) (.int .u64 h'.e.at_)) from hHeld).2.2.1
      have f6 := (set6_far p (HBL1.out.below HB8.out HBL1.out.lt) hgr1 (.int .i64 h'.e.kind) (.string h'.e.key) (.slice h'.A h'.e.val.length h'.c) (.int .u64 h'.e.birth) (.int .u64 h'.e.due) (.int .u64 h'.e.at_)).frozen 6
      have hgot := HT1.out.drew.got (h' := h') (p := p) HB8.out HPP.out hlt ⟨own_base HOW'.out HBASE.out, HOK'.out.key, by rw [HE'.out]; exact hlen⟩ rfl
      have HGOT := Lib.hid hgot
      have hmi : (rest.length : Int) ≤ 1000 := by omega
      clear hgot n0 n1 n2 n3 n4 n5 m0 m1 m2 m3 m4 m5 hHeld hmod hmod' hw1
      unfold set6 at c6 f6 HGOT
      go_wp2
      go_ret
      refine ⟨(⟨rl, rg, rn, f1, rest, lost + 1⟩ : Wt).got h', true, rfl, HGOT.out.1, ?_, rfl, Or.inl ⟨rfl, rfl⟩, ?_⟩
      · exact ((HCC.out.mono (O' := [g, rg]) (fun x hx => by simp only [List.mem_cons, List.not_mem_nil, or_false] at hx; subst hx; simp)).trans HCD.out (fun x hx => Or.inl hx)).drew.trans HGOT.out.2 (fun x hx => Or.inl hx)
      · unfold PutsTo
        rw [if_pos HF.out, if_pos HO.out]
        exact ⟨rfl, ⟨h', HE'.out, fun ad ha => Nat.le_trans HBS.out (HFR.out ad ha), by show rest ++ [h'] = wait.tail ++ [h']; rw [HWR.out]; rfl⟩, rfl⟩
theorem put_any (w : World) (base g : Nat) (t : Wt) (h : Hv) (ht : WtAt w base g t) (hl : t.lost ≤ 1000000000) (hok : h.Ok w w.heap.size) (hlen : h.e.val.length ≤ 65536) (hbase : base ≤ w.heap.size)
    (hap : 0 < h.e.val.length → ∀ a, h.A = some a → a.block ≠ g ∧ a.block ≠ t.rg) (hrg : t.rg < w.heap.size) :
    Calls Try.prog 36 #[.pointer (some ⟨g, 0, none⟩), h.v] w (putTo w base g t h) := by
  by_cases hf : t.wait.length = t.rl.room
  · cases ho : t.rl.oldest with
    | true => exact put_old w base g t h ht hf ho hl hok hlen hbase hap hrg
    | false => exact put_no w base g t h ht hf ho hl
  · exact put_room w base g t h ht hf hok hlen hbase hap hrg
end Go.Proofs.Ytfimgkjdfjlkhaa
