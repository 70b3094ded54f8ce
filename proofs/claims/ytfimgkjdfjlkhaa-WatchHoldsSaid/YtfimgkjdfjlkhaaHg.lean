/- 'take' of a watcher that has an event. -/
import Derived.Test.YtfimgkjdfjlkhaaHf
import Derived.IntWalk
namespace Go.Proofs.Ytfimgkjdfjlkhaa
open Go.RowKit Go.Deep

def Wt.taken (t : Wt) (rest : List Hv) : Wt := { t with first := (t.first + 1) % t.rn, wait := rest }
def takeTo (w : World) (base g : Nat) (t : Wt) (h : Hv) (rest : List Hv) (e : Ending) (w' : World) : Prop :=
  e = .returned h.v ∧ WtAt w' base g (t.taken rest) ∧ Chg [g, t.rg] w w'
set_option maxRecDepth 100000 in
set_option maxHeartbeats 2000000 in
theorem take_any (w : World) (base g : Nat) (t : Wt) (h : Hv) (rest : List Hv) (ht : WtAt w base g t) (hw : t.wait = h :: rest) :
    Calls Try.prog 40 #[.pointer (some ⟨g, 0, none⟩)] w (takeTo w base g t h rest) := by
  obtain ⟨rl, rg, rn, f, wait, lost⟩ := t
  simp only at hw
  subst hw
  have hmany := ht.many
  simp only [List.length_cons] at hmany
  have hrn : rn ≠ 0 := by omega
  obtain ⟨cs, hbr, hring⟩ := ht.ring hrn
  have hf : f < rn := ht.hf hrn
  have hr1000 : rn ≤ 1000 := Nat.le_trans ht.room ht.room2
  have hgr : g ≠ rg := ht.blk.ne_ hbr (by decide)
  have hblk := ht.blk
  unfold Wt.cells Wt.ring at hblk
  simp only [if_neg hrn, List.length_cons] at hblk
  have c4 := hblk.cell 4
  have c5 := hblk.cell 5
  have c6 := hblk.cell 6
  have f5 := hblk.frozen 5
  have f6 := hblk.frozen 6
  simp only [List.getElem?_toArray, List.getElem?_cons_zero, List.getElem?_cons_succ] at c4 c5 c6
  have hat : ∀ q, q < 6 → w.cell? ⟨rg, f * 6 + q, none⟩ = h.cells[q]? := fun q hq => by
    have e := hring.2 0 q (by simp) hq
    simp only [Nat.add_zero, Nat.mod_eq_of_lt hf] at e
    exact (hbr.cell _).trans e
  have d0 := hat 0 (by omega)
  have d1 := hat 1 (by omega)
  have d2 := hat 2 (by omega)
  have d3 := hat 3 (by omega)
  have d4 := hat 4 (by omega)
  have d5 := hat 5 (by omega)
  simp only [Hv.cells, List.getElem?_cons_zero, List.getElem?_cons_succ, Nat.add_zero] at d0 d1 d2 d3 d4 d5
  have HT := Lib.hid ht
  have HBR := Lib.hid hbr
  have HRI := Lib.hid hring
  have HBL := Lib.hid hblk
  have hf0 : (0 : Int) ≤ (f : Int) := Int.natCast_nonneg _
  have hf1 : (f : Int) < (rn : Int) := by omega
  have hgl := hblk.lt
  have hrl := hbr.lt
  clear hat ht hring hblk hbr
  go_enter Try.func40, Try.ntmps40
  go_wp2
  have n0 := World.new_ne w _ c4
  have n1 := World.new_ne w _ d0
  go_region_held3 (fun w' => w'.cell? ⟨g, 4, none⟩ = some (.slice (some ⟨rg, 0, none⟩) rn rn) ∧ w'.cell? ⟨g, 5, none⟩ = some (.int .i64 f) ∧ w'.cell? ⟨rg, f * 6, none⟩ = some (.int .i64 h.e.kind) ∧ w'.cell? ⟨rg, f * 6 + 1, none⟩ = some (.string h.e.key) ∧
      w'.cell? ⟨rg, f * 6 + 2, none⟩ = some (.slice h.A h.e.val.length h.c) ∧ w'.cell? ⟨rg, f * 6 + 3, none⟩ = some (.int .u64 h.e.birth) ∧ w'.cell? ⟨rg, f * 6 + 4, none⟩ = some (.int .u64 h.e.due) ∧ w'.cell? ⟨rg, f * 6 + 5, none⟩ = some (.int .u64 h.e.at_))
    (go_keep) (fail)
  all_goals
    have HC1 := Lib.hid ((((Chg.refl [g, rg] w).alloc (.cells #[.int .i64 0, .string ⟨#[]⟩, .slice none 0 0, .int .u64 0, .int .u64 0, .int .u64 0] 30)).alloc (.cells #[.int .i64 h.e.kind, .string h.e.key, .slice h.A h.e.val.length h.c, .int .u64 h.e.birth, .int .u64 h.e.due, .int .u64 h.e.at_] 30)).drew)
    have HB1 := Lib.hid (((HBL.out.alloc (.cells #[.int .i64 0, .string ⟨#[]⟩, .slice none 0 0, .int .u64 0, .int .u64 0, .int .u64 0] 30)).alloc (.cells #[.int .i64 h.e.kind, .string h.e.key, .slice h.A h.e.val.length h.c, .int .u64 h.e.birth, .int .u64 h.e.due, .int .u64 h.e.at_] 30)).drew)
    have HR1 := Lib.hid (((HBR.out.alloc (.cells #[.int .i64 0, .string ⟨#[]⟩, .slice none 0 0, .int .u64 0, .int .u64 0, .int .u64 0] 30)).alloc (.cells #[.int .i64 h.e.kind, .string h.e.key, .slice h.A h.e.val.length h.c, .int .u64 h.e.birth, .int .u64 h.e.due, .int .u64 h.e.at_] 30)).drew)
    have k2 := ((Blk.new w 30 #[.int .i64 0, .string ⟨#[]⟩, .slice none 0 0, .int .u64 0, .int .u64 0, .int .u64 0]).alloc (.cells #[.int .i64 h.e.kind, .string h.e.key, .slice h.A h.e.val.length h.c, .int .u64 h.e.birth, .int .u64 h.e.due, .int .u64 h.e.at_] 30)).drew
    have k3 := (Blk.new (w.alloc (.cells #[.int .i64 0, .string ⟨#[]⟩, .slice none 0 0, .int .u64 0, .int .u64 0, .int .u64 0] 30)) 30 #[.int .i64 h.e.kind, .string h.e.key, .slice h.A h.e.val.length h.c, .int .u64 h.e.birth, .int .u64 h.e.due, .int .u64 h.e.at_]).drew
    rw [World.size_alloc] at k3
    have HK2 := Lib.hid k2
    have HK3 := Lib.hid k3
    clear k2 k3 c4 c5 c6 d0 d1 d2 d3 d4 d5 f5 f6 n0 n1
    generalize ((w.alloc (.cells #[.int .i64 0, .string ⟨#[]⟩, .slice none 0 0, .int .u64 0, .int .u64 0, .int .u64 0] 30)).alloc (.cells #[.int .i64 h.e.kind, .string h.e.key, .slice h.A h.e.val.length h.c, .int .u64 h.e.birth, .int .u64 h.e.due, .int .u64 h.e.at_] 30)).drew = W1 at *
    have c4 := HB1.out.cell 4
    have c5 := HB1.out.cell 5
    simp only [List.getElem?_toArray, List.getElem?_cons_zero, List.getElem?_cons_succ] at c4 c5
    have hring : ∀ q, q < 6 → ∃ v, W1.cell? ⟨rg, f * 6 + q, none⟩ = some v := fun q hq => by
      have hs := HRI.out.1
      exact ⟨cs[f * 6 + q]'(by omega), by rw [HR1.out.cell]; exact Array.getElem?_eq_getElem _⟩
    obtain ⟨v0, d0⟩ := hring 0 (by omega)
    obtain ⟨v1, d1⟩ := hring 1 (by omega)
    obtain ⟨v2, d2⟩ := hring 2 (by omega)
    obtain ⟨v3, d3⟩ := hring 3 (by omega)
    obtain ⟨v4, d4⟩ := hring 4 (by omega)
    obtain ⟨v5, d5⟩ := hring 5 (by omega)
    simp only [Nat.add_zero] at d0
    have e0 := HR1.out.frozen (f * 6)
    have e1 := HR1.out.frozen (f * 6 + 1)
    have e2 := HR1.out.frozen (f * 6 + 2)
    have e3 := HR1.out.frozen (f * 6 + 3)
    have e4 := HR1.out.frozen (f * 6 + 4)
    have e5 := HR1.out.frozen (f * 6 + 5)
    clear hring
    have key4 := (set6_cell (w := W1) (b := rg) (p := f) (q := ⟨g, 4, none⟩) hgr (.int .i64 0) (.string ⟨#[]⟩) (.slice none 0 0) (.int .u64 0) (.int .u64 0) (.int .u64 0)).trans c4
    have key5 := (set6_cell (w := W1) (b := rg) (p := f) (q := ⟨g, 5, none⟩) hgr (.int .i64 0) (.string ⟨#[]⟩) (.slice none 0 0) (.int .u64 0) (.int .u64 0) (.int .u64 0)).trans c5
    unfold set6 at key4 key5
    go_wp2
    go_region_held3 (fun w' => w'.cell? ⟨g, 4, none⟩ = some (.slice (some ⟨rg, 0, none⟩) rn rn) ∧ w'.cell? ⟨g, 5, none⟩ = some (.int .i64 f))
      (first
        | go_keep
        | exact ⟨key4, key5⟩
        | fail) (fail)
    all_goals
      have HC2 := Lib.hid (set6_chg f HC1.out (b := rg) (Or.inl (by simp)) (.int .i64 0) (.string ⟨#[]⟩) (.slice none 0 0) (.int .u64 0) (.int .u64 0) (.int .u64 0)).drew
      have HB2 := Lib.hid (set6_far f HB1.out hgr (.int .i64 0) (.string ⟨#[]⟩) (.slice none 0 0) (.int .u64 0) (.int .u64 0) (.int .u64 0)).drew
      have HR2 := Lib.hid (set6_blk f HR1.out (.int .i64 0) (.string ⟨#[]⟩) (.slice none 0 0) (.int .u64 0) (.int .u64 0) (.int .u64 0)).drew
      have HK22 := Lib.hid (set6_far f HK2.out (show w.heap.size ≠ rg by omega) (.int .i64 0) (.string ⟨#[]⟩) (.slice none 0 0) (.int .u64 0) (.int .u64 0) (.int .u64 0)).drew
      have HK32 := Lib.hid (set6_far f HK3.out (show w.heap.size + 1 ≠ rg by omega) (.int .i64 0) (.string ⟨#[]⟩) (.slice none 0 0) (.int .u64 0) (.int .u64 0) (.int .u64 0)).drew
      have hRI := HRI.out.take (rest := rest) (by omega) hf (.int .i64 0) (.string ⟨#[]⟩) (.slice none 0 0) (.int .u64 0) (.int .u64 0) (.int .u64 0)
      have HRI2 := Lib.hid hRI
      unfold set6 at HC2 HB2 HR2 HK22 HK32
      clear hRI key4 key5 c4 c5 d0 d1 d2 d3 d4 d5 e0 e1 e2 e3 e4 e5
      generalize ((((((W1.setCell ⟨rg, f * 6, none⟩ (.int .i64 0)).setCell ⟨rg, f * 6 + 1, none⟩ (.string ⟨#[]⟩)).setCell ⟨rg, f * 6 + 2, none⟩ (.slice none 0 0)).setCell ⟨rg, f * 6 + 3, none⟩ (.int .u64 0)).setCell ⟨rg, f * 6 + 4, none⟩ (.int .u64 0)).setCell ⟨rg, f * 6 + 5, none⟩ (.int .u64 0)).drew = W2 at *
      have c4 := HB2.out.cell 4
      have c5 := HB2.out.cell 5
      have c6 := HB2.out.cell 6
      have f5 := HB2.out.frozen 5
      have f6 := HB2.out.frozen 6
      simp only [List.getElem?_toArray, List.getElem?_cons_zero, List.getElem?_cons_succ] at c4 c5 c6
      have hw1 : IntKind.i64.wrap ((f : Int) + 1) = (f : Int) + 1 := IntWalk.i64_in _ (by omega)
      have hs6 : (0 : Int) ≤ (f : Int) + 1 := by omega
      have hmod : Int.tmod ((f : Int) + 1) (rn : Int) = (((f + 1) % rn : Nat) : Int) := by rw [Int.tmod_eq_emod_of_nonneg (by omega)]; push_cast; rfl
      have hmod' : ((f : Int) + 1) % (rn : Int) = (((f + 1) % rn : Nat) : Int) := by push_cast; rfl
      have hr0 : ¬ (rn : Int) = 0 := by omega
      obtain ⟨f2, hf2⟩ : ∃ f2 : Nat, (f + 1) % rn = f2 := ⟨_, rfl⟩
      rw [hf2] at hmod hmod'
      have HF2 := Lib.hid hf2
      clear hf2
      go_wp2
      go_region
      all_goals
        have HC3 := Lib.hid (HC2.out.setCell (p := ⟨g, 5, none⟩) (Or.inl (by simp)) (.int .i64 f2)).drew
        have hb3 := (HB2.out.set_ 5 (.int .i64 f2)).drew
        have HB3 := Lib.hid hb3
        have HR3 := Lib.hid (HR2.out.far (p := ⟨g, 5, none⟩) (Ne.symm hgr) (.int .i64 f2)).drew
        have hk2 := (HK22.out.far (p := ⟨g, 5, none⟩) (show w.heap.size ≠ g by omega) (.int .i64 f2)).drew
        have hk3 := (HK32.out.far (p := ⟨g, 5, none⟩) (show w.heap.size + 1 ≠ g by omega) (.int .i64 f2)).drew
        have HK23 := Lib.hid hk2
        have HK33 := Lib.hid hk3
        clear c4 c5 c6 f5 f6 hmod hmod' hw1 hs6
        generalize (W2.setCell ⟨g, 5, none⟩ (.int .i64 f2)).drew = W3 at *
        have c6 := hb3.cell 6
        have f6 := hb3.frozen 6
        have a0 := hk3.cell 0
        have a1 := hk3.cell 1
        have a2 := hk3.cell 2
        have a3 := hk3.cell 3
        have a4 := hk3.cell 4
        have a5 := hk3.cell 5
        have b0 := hk2.cell 0
        have b1 := hk2.cell 1
        have b2 := hk2.cell 2
        have b3 := hk2.cell 3
        have b4 := hk2.cell 4
        have b5 := hk2.cell 5
        have g0 := hk2.frozen 0
        have g1 := hk2.frozen 1
        have g2 := hk2.frozen 2
        have g3 := hk2.frozen 3
        have g4 := hk2.frozen 4
        have g5 := hk2.frozen 5
        simp only [List.setIfInBounds_toArray, List.set_cons_zero, List.set_cons_succ, List.getElem?_toArray, List.getElem?_cons_zero, List.getElem?_cons_succ] at c6 a0 a1 a2 a3 a4 a5 b0 b1 b2 b3 b4 b5
        have hm0 : (rest.length : Int) ≤ 1000 := by omega
        have hg1 : g ≠ w.heap.size := by omega
        have hg2 : g ≠ w.heap.size + 1 := by omega
        clear hb3 hk2 hk3
        go_wp2
        have HC4 := Lib.hid (((((((HC3.out.setCell (p := ⟨g, 6, none⟩) (Or.inl (by simp)) (.int .i64 rest.length)).setCell (p := ⟨w.heap.size, 0, none⟩) (Or.inr (Nat.le_refl _)) (.int .i64 h.e.kind)).setCell (p := ⟨w.heap.size, 1, none⟩) (Or.inr (Nat.le_refl _)) (.string h.e.key)).setCell (p := ⟨w.heap.size, 2, none⟩) (Or.inr (Nat.le_refl _)) (.slice h.A h.e.val.length h.c)).setCell (p := ⟨w.heap.size, 3, none⟩) (Or.inr (Nat.le_refl _)) (.int .u64 h.e.birth)).setCell (p := ⟨w.heap.size, 4, none⟩) (Or.inr (Nat.le_refl _)) (.int .u64 h.e.due)).setCell (p := ⟨w.heap.size, 5, none⟩) (Or.inr (Nat.le_refl _)) (.int .u64 h.e.at_))
        have hb4 := (((((((HB3.out.set_ 6 (.int .i64 rest.length)).far (p := ⟨w.heap.size, 0, none⟩) hg1 (.int .i64 h.e.kind)).far (p := ⟨w.heap.size, 1, none⟩) hg1 (.string h.e.key)).far (p := ⟨w.heap.size, 2, none⟩) hg1 (.slice h.A h.e.val.length h.c)).far (p := ⟨w.heap.size, 3, none⟩) hg1 (.int .u64 h.e.birth)).far (p := ⟨w.heap.size, 4, none⟩) hg1 (.int .u64 h.e.due)).far (p := ⟨w.heap.size, 5, none⟩) hg1 (.int .u64 h.e.at_))
        have HR4 := Lib.hid (((((((HR3.out.far (p := ⟨g, 6, none⟩) (Ne.symm hgr) (.int .i64 rest.length)).far (p := ⟨w.heap.size, 0, none⟩) (show rg ≠ w.heap.size by omega) (.int .i64 h.e.kind)).far (p := ⟨w.heap.size, 1, none⟩) (show rg ≠ w.heap.size by omega) (.string h.e.key)).far (p := ⟨w.heap.size, 2, none⟩) (show rg ≠ w.heap.size by omega) (.slice h.A h.e.val.length h.c)).far (p := ⟨w.heap.size, 3, none⟩) (show rg ≠ w.heap.size by omega) (.int .u64 h.e.birth)).far (p := ⟨w.heap.size, 4, none⟩) (show rg ≠ w.heap.size by omega) (.int .u64 h.e.due)).far (p := ⟨w.heap.size, 5, none⟩) (show rg ≠ w.heap.size by omega) (.int .u64 h.e.at_))
        have kf := (((((((HK23.out.far (p := ⟨g, 6, none⟩) (Ne.symm hg1) (.int .i64 rest.length)).set_ 0 (.int .i64 h.e.kind)).set_ 1 (.string h.e.key)).set_ 2 (.slice h.A h.e.val.length h.c)).set_ 3 (.int .u64 h.e.birth)).set_ 4 (.int .u64 h.e.due)).set_ 5 (.int .u64 h.e.at_))
        clear a0 a1 a2 a3 a4 a5 b0 b1 b2 b3 b4 b5 c6 f6 g0 g1 g2 g3 g4 g5
        generalize (((((((W3.setCell ⟨g, 6, none⟩ (.int .i64 rest.length)).setCell ⟨w.heap.size, 0, none⟩ (.int .i64 h.e.kind)).setCell ⟨w.heap.size, 1, none⟩ (.string h.e.key)).setCell ⟨w.heap.size, 2, none⟩ (.slice h.A h.e.val.length h.c)).setCell ⟨w.heap.size, 3, none⟩ (.int .u64 h.e.birth)).setCell ⟨w.heap.size, 4, none⟩ (.int .u64 h.e.due)).setCell ⟨w.heap.size, 5, none⟩ (.int .u64 h.e.at_)) = W4 at *
        have c0 := kf.cell 0
        have c1 := kf.cell 1
        have c2 := kf.cell 2
        have c3 := kf.cell 3
        have c4 := kf.cell 4
        have c5 := kf.cell 5
        simp at c0 c1 c2 c3 c4 c5
        have hO : ∀ (e : Nat), e ≠ 76 → e ≠ 30 → ∀ k ∈ [g, rg], k < w.heap.size → ∃ cs t, Blk w k t cs ∧ t ≠ e := by
          intro e h1 h2 k hk _
          simp only [List.mem_cons, List.not_mem_nil, or_false] at hk
          rcases hk with rfl | rfl
          · exact ⟨_, _, HT.out.blk, Ne.symm h1⟩
          · exact ⟨_, _, HBR.out, Ne.symm h2⟩
        refine bodyPost_ret (v := h.v) (by unfold Hv.v; simp [results, Try.results40, go_sem, c0, c1, c2, c3, c4, c5]) rfl ⟨rfl, ?_, HC4.out⟩
        exact {
          blk := by
            have : ((#[Value.string rl.pre, .slice rl.kA rl.kinds.length rl.kc, .int .i64 rl.room, .bool rl.oldest, .slice (some ⟨rg, 0, none⟩) rn rn, .int .i64 f, .int .i64 ((rest.length + 1 : Nat) : Int), .int .i64 lost] : Array Value).setIfInBounds 5 (.int .i64 f2)).setIfInBounds 6 (.int .i64 rest.length) = (Wt.taken ⟨rl, rg, rn, f, h :: rest, lost⟩ rest).cells := by
              simp [Wt.cells, Wt.ring, Wt.taken, hrn, HF2.out]
            rw [← this]
            exact hb4
          ring := fun _ => ⟨_, HR4.out, HRI2.out⟩
          hf := fun _ => Nat.mod_lt _ (by show 0 < rn; omega)
          hf0 := fun e => absurd e hrn
          many := by show rest.length ≤ rn; omega
          room1 := HT.out.room1
          room := HT.out.room
          room2 := HT.out.room2
          own := fun x hx => HC4.out.evOwn (HT.out.own x (List.mem_cons_of_mem _ hx)) (hO 5 (by decide) (by decide))
          kinds := HT.out.kinds.imp id (fun hk => HC4.out.own hk (hO 25 (by decide) (by decide))) }
end Go.Proofs.Ytfimgkjdfjlkhaa
