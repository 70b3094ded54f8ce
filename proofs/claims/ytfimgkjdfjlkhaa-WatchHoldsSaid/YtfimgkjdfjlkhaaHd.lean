/- Events in memory; copies of bytes and of events. Lengths of values are at most a million. -/
import Derived.Test.YtfimgkjdfjlkhaaHc
namespace Go.Proofs.Ytfimgkjdfjlkhaa
open Go.RowKit Go.Deep

/-- An event in memory: its value's slice begins at A. -/
structure Hv where
  e : Ev
  A : Option Addr
  c : Nat
def Hv.cells (h : Hv) : List Value := [.int .i64 h.e.kind, .string h.e.key, .slice h.A h.e.val.length h.c, .int .u64 h.e.birth, .int .u64 h.e.due, .int .u64 h.e.at_]
def Hv.v (h : Hv) : Value := .agg #[.int .i64 h.e.kind, .string h.e.key, .slice h.A h.e.val.length h.c, .int .u64 h.e.birth, .int .u64 h.e.due, .int .u64 h.e.at_]
/-- What holds of an event in memory. -/
structure Hv.Ok (w : World) (B : Nat) (h : Hv) : Prop where
  val : Reads w B 1 h.A h.e.val.length (ints .u8 h.e.val)
  key : h.e.key.size ≤ maxLen
  nil : h.A = none → h.e.val.length = 0 ∧ h.c = 0
section
variable {w w' : World} {B B' : Nat} {h : Hv}
theorem Hv.Ok.keep (o : h.Ok w B) (hk : ∀ p : Addr, p.block < B → w'.cell? p = w.cell? p) : h.Ok w' B := ⟨o.val.keep hk, o.key, o.nil⟩
theorem Hv.Ok.more (o : h.Ok w B) (hB : B ≤ B') : h.Ok w B' := ⟨o.val.more hB, o.key, o.nil⟩
theorem Hv.Ok.below (o : h.Ok w B) (hb : Below B w w') : h.Ok w' B := ⟨o.val.below hb, o.key, o.nil⟩
end
def zeroEv : Ev := ⟨0, ⟨#[]⟩, [], 0, 0, 0⟩
def zeroHv : Hv := ⟨zeroEv, none, 0⟩
def hnth (hs : List Hv) (j : Nat) : Hv := hs.getD j zeroHv
theorem hnth_eq {hs : List Hv} {j : Nat} (h : j < hs.length) : hnth hs j = hs[j] := by unfold hnth; rw [List.getD, List.getElem?_eq_getElem h]; rfl
theorem hnth_mem {hs : List Hv} {j : Nat} (h : j < hs.length) : hnth hs j ∈ hs := by rw [hnth_eq h]; exact List.getElem_mem h
def ecells (hs : List Hv) : List Value := hs.flatMap Hv.cells
theorem ecells_len (hs : List Hv) : (ecells hs).length = hs.length * 6 := by
  induction hs with
  | nil => rfl
  | cons h t ih => simp only [ecells, List.flatMap_cons, List.length_append, List.length_cons] at ih ⊢; rw [ih]; simp [Hv.cells]; omega
theorem ecells_app (a b : List Hv) : ecells (a ++ b) = ecells a ++ ecells b := by simp [ecells]
theorem ecells_at (hs : List Hv) : ∀ j i, j < hs.length → i < 6 → (ecells hs)[j * 6 + i]? = (hnth hs j).cells[i]? := by
  induction hs with
  | nil => intro j i hj; simp at hj
  | cons h t ih =>
    intro j i hj hi
    have hl : h.cells.length = 6 := rfl
    cases j with
    | zero =>
      show (h.cells ++ ecells t)[0 * 6 + i]? = _
      rw [Nat.zero_mul, Nat.zero_add, List.getElem?_append_left (by omega)]; rfl
    | succ j =>
      show (h.cells ++ ecells t)[(j + 1) * 6 + i]? = _
      rw [List.getElem?_append_right (by omega), hl, show (j + 1) * 6 + i - 6 = j * 6 + i by omega, ih j i (by simpa using hj) hi]
      rfl
/-- Events in a slice. -/
structure EvsAt (w : World) (B : Nat) (A : Option Addr) (n : Nat) (hs : List Hv) : Prop where
  cells : Reads w B 6 A n (ecells hs)
  ok : ∀ h ∈ hs, h.Ok w B
section
variable {w w' : World} {B B' n j : Nat} {A : Option Addr} {hs : List Hv}
theorem EvsAt.len (h : EvsAt w B A n hs) : hs.length = n := by
  have := h.cells.1
  rw [ecells_len] at this
  omega
theorem EvsAt.keep (o : EvsAt w B A n hs) (hk : ∀ p : Addr, p.block < B → w'.cell? p = w.cell? p) : EvsAt w' B A n hs := ⟨o.cells.keep hk, fun h hh => (o.ok h hh).keep hk⟩
theorem EvsAt.more (o : EvsAt w B A n hs) (hB : B ≤ B') : EvsAt w B' A n hs := ⟨o.cells.more hB, fun h hh => (o.ok h hh).more hB⟩
theorem EvsAt.below (o : EvsAt w B A n hs) (hb : Below B w w') : EvsAt w' B A n hs := ⟨o.cells.below hb, fun h hh => (o.ok h hh).below hb⟩
theorem EvsAt.none_ : EvsAt w B none 0 [] := ⟨Reads.none_, fun _ h => by cases h⟩
theorem EvsAt.at_ (h : EvsAt w B A n hs) (hj : j < n) : ∃ b o : Nat, A = some ⟨b, o, none⟩ ∧ b < B ∧ w.cell? ⟨b, o + j * 6, none⟩ = some (.int .i64 (hnth hs j).e.kind) ∧ w.cell? ⟨b, o + j * 6 + 1, none⟩ = some (.string (hnth hs j).e.key) ∧
    w.cell? ⟨b, o + j * 6 + 2, none⟩ = some (.slice (hnth hs j).A (hnth hs j).e.val.length (hnth hs j).c) ∧ w.cell? ⟨b, o + j * 6 + 3, none⟩ = some (.int .u64 (hnth hs j).e.birth) ∧
    w.cell? ⟨b, o + j * 6 + 4, none⟩ = some (.int .u64 (hnth hs j).e.due) ∧ w.cell? ⟨b, o + j * 6 + 5, none⟩ = some (.int .u64 (hnth hs j).e.at_) := by
  have hl := h.len
  obtain ⟨ad, e, hb, hc⟩ := h.cells.2 (by omega)
  have hat := fun i hi => ecells_at hs j i (by omega) hi
  have hs0 : ad.spot = none := by
    have := hc 0 _ (by have := ecells_at hs 0 0 (by omega) (by omega); simpa [Hv.cells] using this)
    have := spot_of_cell this
    unfold Addr.add at this; simpa using this
  obtain ⟨b, o, s⟩ := ad
  simp only at hs0
  subst hs0
  refine ⟨b, o, e, hb, ?_⟩
  have hcell : ∀ i v, (hnth hs j).cells[i]? = some v → i < 6 → w.cell? ⟨b, o + j * 6 + i, none⟩ = some v := fun i v hv hi => by
    have := hc (j * 6 + i) v (by rw [hat i hi]; exact hv)
    rwa [add_spot _ _ rfl, ← Nat.add_assoc] at this
  exact ⟨hcell 0 _ rfl (by omega), hcell 1 _ rfl (by omega), hcell 2 _ rfl (by omega), hcell 3 _ rfl (by omega), hcell 4 _ rfl (by omega), hcell 5 _ rfl (by omega)⟩
end

/-- What a slice reads hangs on its own block alone. -/
theorem Reads.apart {w w' : World} {B B' size n : Nat} {A : Option Addr} {xs : List Value} (h : Reads w B size A n xs) (hB : B ≤ B') (hk : ∀ a, A = some a → ∀ q : Addr, q.block = a.block → w'.cell? q = w.cell? q) : Reads w' B' size A n xs :=
  ⟨h.1, fun hn => by
    obtain ⟨ad, e, hb, hc⟩ := h.2 hn
    exact ⟨ad, e, Nat.lt_of_lt_of_le hb hB, fun j u hu => (hk ad e _ (block_of_add _ _)).trans (hc j u hu)⟩⟩
theorem cell_far {w : World} {p q : Addr} (h : q.block ≠ p.block) (u : Value) : (w.setCell p u).cell? q = w.cell? q :=
  World.cell?_setCell_other w p q u (fun e => h (by rw [e]))
theorem own_same {w w' : World} {B e size n : Nat} {v : Value} {xs : List Value} (h : w.ownsRow B e size v n xs) (hk : ∀ g, v.ownBlock = some g → w'.heap[g]? = w.heap[g]?) : w'.ownsRow B e size v n xs := by
  refine ⟨h.1, ?_⟩
  rcases h.2 with h2 | ⟨g, cap, cur, rfl, hb, hg, rest⟩
  · exact .inl h2
  · exact .inr ⟨g, cap, cur, rfl, hb, (hk g rfl).trans hg, rest⟩
theorem info5 : (Try.prog.info? 5).map (fun i => (i.zero, i.size, i.bytes)) = some (some (.int .u8 0), 1, 1) := by kernel_rfl
/-- What bytes.Clone returns. -/
def Cloned (w : World) (A : Option Addr) (xs : List Int) (v : Value) (w' : World) : Prop :=
  ∃ A' c', v = .slice A' xs.length c' ∧ Reads w' w'.heap.size 1 A' xs.length (ints .u8 xs) ∧ (A' = none → xs.length = 0 ∧ c' = 0) ∧ Below w.heap.size w w' ∧ (∀ a, A' = some a → w.heap.size ≤ a.block) ∧ (A = none → A' = none) ∧ w'.ownsRow w.heap.size 5 1 v xs.length (ints .u8 xs)
def clonedTo (w : World) (A : Option Addr) (xs : List Int) (e : Ending) (w' : World) : Prop := ∃ v, e = .returned v ∧ Cloned w A xs v w'
set_option maxHeartbeats 1000000 in
set_option maxRecDepth 100000 in
theorem clone_any (A : Option Addr) (c : Nat) (xs : List Int) (w : World) (h : Reads w w.heap.size 1 A xs.length (ints .u8 xs)) (hn : xs.length ≤ 1000000) (h0 : A = none → xs.length = 0 ∧ c = 0) :
    Calls Try.prog 58 #[.slice A xs.length c] w (clonedTo w A xs) := by
  cases A with
  | none =>
    obtain ⟨e0, rfl⟩ := h0 rfl
    have e1 : xs = [] := List.eq_nil_of_length_eq_zero e0
    subst e1
    have hq := fun W => Lib.run_eql_slice_nil (P := Try.prog) W 26 5 none 0 0 0 0 Try.underlying26
    clear h0 h e0
    go_enter Try.func58, Try.ntmps58
    go_wp2
    go_ret
    exact ⟨_, rfl, none, 0, rfl, Reads.none_, fun _ => ⟨rfl, rfl⟩, Below.refl _ _, (fun a ha => by cases ha), fun _ => rfl, World.ownsRow_nil _ _ _ _⟩
  | some ad =>
    have hown : (w.alloc (.cells #[] 5)).ownsRow w.heap.size 5 1 (.slice (some ⟨w.heap.size, 0, none⟩) 0 0) 0 [] :=
      ⟨rfl, .inr ⟨w.heap.size, 0, #[], rfl, Nat.le_refl _, heap_alloc_new w _, Nat.le_refl _, by unfold maxLen; omega, rfl, rfl⟩⟩
    have hr := h.alloc (Nat.le_refl _) (.cells #[] 5)
    obtain ⟨i0, hi, hz0, hz1, hz2⟩ := info_parts info5
    have HH := Lib.hid h
    have hq := fun W => Lib.run_eql_slice_nil (P := Try.prog) W 26 5 (some ad) xs.length c 0 0 Try.underlying26
    clear h h0
    go_enter Try.func58, Try.ntmps58
    go_wp2_with (first
      | (at_builtin; (refine wpList_append_any (w := w.alloc (.cells #[] 5)) rfl (.tmp 5) (.tmp 6) 26 rfl w.heap.size 5 i0 _ 1 1 Try.underlying26 hi hz0 hz1 hz2 rfl (by omega) _ 0 [] rfl hown w.heap.size (some ad) xs.length c (ints .u8 xs) rfl hr (by simp [ints, Value.oneCell']) (by unfold maxLen; omega) (by omega) (by simp) ?_); intro v' w1 hown' hg' _))
    obtain ⟨A', c', rfl, hr'⟩ := own_slice hown'
    have HB := Lib.hid (((Below.refl _ w).alloc (Nat.le_refl _) (.cells #[] 5)).grown hg' (by simp) (fun j hj => (hown.lt j hj).1))
    go_ret
    refine ⟨_, rfl, A', c', by simp, by simpa using hr', ?_, HB.out, ?_, (fun e => by cases e), by simpa using hown'⟩
    · rintro rfl
      rcases hown'.2 with ⟨e1, e2⟩ | ⟨g, cap, cur, e1, _⟩
      · injection e1 with _ _ e3; exact ⟨by omega, e3⟩
      · cases e1
    · rintro a rfl
      rcases hown'.2 with ⟨e1, _⟩ | ⟨g, cap, cur, e1, hg, _⟩
      · cases e1
      · injection e1 with e1; injection e1 with e1; subst e1; exact hg

/-- What 'copied' returns: an event with a value of its own. -/
def copiedTo (w : World) (h : Hv) (e : Ending) (w' : World) : Prop :=
  ∃ h' : Hv, e = .returned h'.v ∧ h'.e = h.e ∧ h'.Ok w' w'.heap.size ∧ Below w.heap.size w w' ∧ (∀ a, h'.A = some a → w.heap.size ≤ a.block) ∧ w'.ownsRow w.heap.size 5 1 (.slice h'.A h'.e.val.length h'.c) h'.e.val.length (ints .u8 h'.e.val)
set_option maxRecDepth 100000 in
set_option maxHeartbeats 1000000 in
theorem copied_any (h : Hv) (w : World) (ho : h.Ok w w.heap.size) (hn : h.e.val.length ≤ 1000000) : Calls Try.prog 46 #[h.v] w (copiedTo w h) := by
  have hc := clone_any h.A h.c h.e.val ((w.alloc (.cells h.cells.toArray 30)).alloc (.cells #[.int .i64 0, .string ⟨#[]⟩, .slice none 0 0, .int .u64 0, .int .u64 0, .int .u64 0] 30))
    (((ho.val.alloc (Nat.le_refl _) _).alloc (by simp) _).more (by simp; omega)) hn ho.nil
  have k0 := (Blk.new w 30 h.cells.toArray).alloc (.cells #[.int .i64 0, .string ⟨#[]⟩, .slice none 0 0, .int .u64 0, .int .u64 0, .int .u64 0] 30)
  have k1 := Blk.new (w.alloc (.cells h.cells.toArray 30)) 30 #[.int .i64 0, .string ⟨#[]⟩, .slice none 0 0, .int .u64 0, .int .u64 0, .int .u64 0]
  have HB0 := Lib.hid (show Below w.heap.size w ((w.alloc (.cells h.cells.toArray 30)).alloc (.cells #[.int .i64 0, .string ⟨#[]⟩, .slice none 0 0, .int .u64 0, .int .u64 0, .int .u64 0] 30)) from
    ((Below.refl _ w).alloc (Nat.le_refl _) _).alloc (by simp) _)
  rw [World.size_alloc] at k1
  have hz : ((w.alloc (.cells h.cells.toArray 30)).alloc (.cells #[.int .i64 0, .string ⟨#[]⟩, .slice none 0 0, .int .u64 0, .int .u64 0, .int .u64 0] 30)).heap.size = w.heap.size + 2 := by simp
  have HZ := Lib.hid hz
  have HK0 := Lib.hid k0
  have HK1 := Lib.hid k1
  have HC := Lib.hid hc
  have HO := Lib.hid ho
  clear hc ho k0 k1 hz
  obtain ⟨⟨kd, key, val, birth, due, at_⟩, A, c⟩ := h
  simp only [Hv.v, Hv.cells] at HC HK0 HK1 HB0 HZ ⊢
  go_enter Try.func46, Try.ntmps46
  go_wp2_with fail
  generalize (w.alloc (.cells #[.int .i64 kd, .string key, .slice A val.length c, .int .u64 birth, .int .u64 due, .int .u64 at_] 30)).alloc (.cells #[.int .i64 0, .string ⟨#[]⟩, .slice none 0 0, .int .u64 0, .int .u64 0, .int .u64 0] 30) = w0 at *
  refine HC.out.mono ?_
  rintro e w1 ⟨v, rfl, A', c', rfl, hr, hnil, hb, hnew, _, hownv⟩
  have j0 := HK0.out.below hb HK0.out.lt
  have j1 := HK1.out.below hb HK1.out.lt
  have f0 := j0.frozen 2
  have a0 := j0.cell 0
  have a1 := j0.cell 1
  have a2 := j0.cell 2
  have a3 := j0.cell 3
  have a4 := j0.cell 4
  have a5 := j0.cell 5
  have b0 := j1.cell 0
  have b1 := j1.cell 1
  have b2 := j1.cell 2
  have b3 := j1.cell 3
  have b4 := j1.cell 4
  have b5 := j1.cell 5
  have g0 := j1.frozen 0
  have g1 := j1.frozen 1
  have g2 := j1.frozen 2
  have g3 := j1.frozen 3
  have g4 := j1.frozen 4
  have g5 := j1.frozen 5
  simp only [List.getElem?_toArray, List.getElem?_cons_zero, List.getElem?_cons_succ] at a0 a1 a2 a3 a4 a5 b0 b1 b2 b3 b4 b5
  have HR := Lib.hid hr
  have HN := Lib.hid hnil
  have HW := Lib.hid hnew
  have HB1 := Lib.hid (HB0.out.trans (hb.mono HB0.out.size))
  have HJ1 := Lib.hid j1
  have HZ1 := Lib.hid hb.size
  clear hb hr hnil hnew j0 j1
  go_wp2
  have kf := ((((((HJ1.out.far (p := ⟨w.heap.size, 2, none⟩) (by simp) (.slice A' val.length c')).set_ 0 (.int .i64 kd)).set_ 1 (.string key)).set_ 2 (.slice A' val.length c')).set_ 3 (.int .u64 birth)).set_ 4 (.int .u64 due)).set_ 5 (.int .u64 at_)
  have hsz := HZ.out
  have hfar : ∀ q : Addr, w.heap.size + 2 ≤ q.block → (((((((w1.setCell ⟨w.heap.size, 2, none⟩ (.slice A' val.length c')).setCell ⟨w.heap.size + 1, 0, none⟩ (.int .i64 kd)).setCell ⟨w.heap.size + 1, 1, none⟩ (.string key)).setCell ⟨w.heap.size + 1, 2, none⟩ (.slice A' val.length c')).setCell ⟨w.heap.size + 1, 3, none⟩ (.int .u64 birth)).setCell ⟨w.heap.size + 1, 4, none⟩ (.int .u64 due)).setCell ⟨w.heap.size + 1, 5, none⟩ (.int .u64 at_)).cell? q = w1.cell? q := fun q hq => by
    repeat (rw [cell_far (by simp; omega)])
  have hbf := (((((((HB1.out.setCell (p := ⟨w.heap.size, 2, none⟩) (by simp) (.slice A' val.length c')).setCell (p := ⟨w.heap.size + 1, 0, none⟩) (by simp) (.int .i64 kd)).setCell (p := ⟨w.heap.size + 1, 1, none⟩) (by simp) (.string key)).setCell (p := ⟨w.heap.size + 1, 2, none⟩) (by simp) (.slice A' val.length c')).setCell (p := ⟨w.heap.size + 1, 3, none⟩) (by simp) (.int .u64 birth)).setCell (p := ⟨w.heap.size + 1, 4, none⟩) (by simp) (.int .u64 due)).setCell (p := ⟨w.heap.size + 1, 5, none⟩) (by simp) (.int .u64 at_))
  have hrf := HR.out.apart (w' := ((((((w1.setCell ⟨w.heap.size, 2, none⟩ (.slice A' val.length c')).setCell ⟨w.heap.size + 1, 0, none⟩ (.int .i64 kd)).setCell ⟨w.heap.size + 1, 1, none⟩ (.string key)).setCell ⟨w.heap.size + 1, 2, none⟩ (.slice A' val.length c')).setCell ⟨w.heap.size + 1, 3, none⟩ (.int .u64 birth)).setCell ⟨w.heap.size + 1, 4, none⟩ (.int .u64 due)).setCell ⟨w.heap.size + 1, 5, none⟩ (.int .u64 at_)) (Nat.le_refl _) (fun a ha q hq => hfar q (by have := HW.out a ha; omega))
  clear hfar a0 a1 a2 a3 a4 a5 b0 b1 b2 b3 b4 b5 f0 g0 g1 g2 g3 g4 g5
  have hownf : Hid ((((((((w1.setCell ⟨w.heap.size, 2, none⟩ (.slice A' val.length c')).setCell ⟨w.heap.size + 1, 0, none⟩ (.int .i64 kd)).setCell ⟨w.heap.size + 1, 1, none⟩ (.string key)).setCell ⟨w.heap.size + 1, 2, none⟩ (.slice A' val.length c')).setCell ⟨w.heap.size + 1, 3, none⟩ (.int .u64 birth)).setCell ⟨w.heap.size + 1, 4, none⟩ (.int .u64 due)).setCell ⟨w.heap.size + 1, 5, none⟩ (.int .u64 at_)).ownsRow w.heap.size 5 1 (.slice A' val.length c') val.length (ints .u8 val)) := by
    refine Lib.hid (own_base (own_same hownv ?_) (by omega))
    intro g hg
    have hgb : w.heap.size + 2 ≤ g := by have := (hownv.lt g hg).1; omega
    repeat (rw [heap_setCell_other _ _ _ _ (by simp; omega)])
  clear hownv
  generalize hWf : (((((((w1.setCell ⟨w.heap.size, 2, none⟩ (.slice A' val.length c')).setCell ⟨w.heap.size + 1, 0, none⟩ (.int .i64 kd)).setCell ⟨w.heap.size + 1, 1, none⟩ (.string key)).setCell ⟨w.heap.size + 1, 2, none⟩ (.slice A' val.length c')).setCell ⟨w.heap.size + 1, 3, none⟩ (.int .u64 birth)).setCell ⟨w.heap.size + 1, 4, none⟩ (.int .u64 due)).setCell ⟨w.heap.size + 1, 5, none⟩ (.int .u64 at_)) = Wf at *
  have hsf : w1.heap.size ≤ Wf.heap.size := by rw [← hWf]; simp
  have c0 := kf.cell 0
  have c1 := kf.cell 1
  have c2 := kf.cell 2
  have c3 := kf.cell 3
  have c4 := kf.cell 4
  have c5 := kf.cell 5
  simp at c0 c1 c2 c3 c4 c5
  refine bodyPost_ret (v := .agg #[.int .i64 kd, .string key, .slice A' val.length c', .int .u64 birth, .int .u64 due, .int .u64 at_]) (by simp [results, Try.results46, go_sem, c0, c1, c2, c3, c4, c5]) rfl
    ⟨⟨⟨kd, key, val, birth, due, at_⟩, A', c'⟩, rfl, rfl, ⟨hrf.more hsf, HO.out.key, HN.out⟩, hbf, (fun a ha => by have := HW.out a ha; omega), hownf.out⟩
end Go.Proofs.Ytfimgkjdfjlkhaa
