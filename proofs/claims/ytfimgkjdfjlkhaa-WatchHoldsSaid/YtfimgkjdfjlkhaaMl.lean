/- 'Publish' of a hub that is there. At most 4096 events. -/
import Derived.Test.YtfimgkjdfjlkhaaMk
namespace Go.Proofs.Ytfimgkjdfjlkhaa
open Go.RowKit Go.Deep Go.Maps

theorem Chg.cell_ {w w1 : World} {O : List Nat} (h : Chg O w w1) {p : Addr} (hp : p.block < w.heap.size) (hn : p.block ∉ O) : w1.cell? p = w.cell? p := World.cell?_of_block (h.block p.block hp hn)
theorem EvsAt.chg {w w1 : World} {O : List Nat} {A : Option Addr} {k : Nat} {hs : List Hv} (h : EvsAt w w.heap.size A k hs) (hc : Chg O w w1) (h1 : 0 < k → ∀ a, A = some a → a.block ∉ O) (h2 : ∀ x ∈ hs, 0 < x.e.val.length → ∀ a, x.A = some a → a.block ∉ O) : EvsAt w1 w.heap.size A k hs := by
  have key : ∀ {size n : Nat} {A : Option Addr} {xs : List Value}, Reads w w.heap.size size A n xs → (0 < n → ∀ a, A = some a → a.block ∉ O) → Reads w1 w.heap.size size A n xs := fun {size n A xs} h hn => ⟨h.1, fun hp => by
    obtain ⟨ad, e, hb, hc'⟩ := h.2 hp
    exact ⟨ad, e, hb, fun j u hu => (hc.cell_ (p := ad.add j) (by rw [block_of_add]; exact hb) (by rw [block_of_add]; exact hn hp ad e)).trans (hc' j u hu)⟩⟩
  exact ⟨key h.cells h1, fun x hx => ⟨key (h.ok x hx).val (h2 x hx), (h.ok x hx).key, (h.ok x hx).nil⟩⟩
def evs (hs : List Hv) : List Ev := hs.map (·.e)
theorem evs_snoc {hs : List Hv} {j : Nat} (h : j < hs.length) : evs (hs.take (j + 1)) = evs (hs.take j) ++ [(hnth hs j).e] := by
  unfold evs
  rw [List.take_succ_eq_append_getElem h, List.map_append, hnth_eq h]; rfl
theorem taken_nil : ∀ l : List Sl, taken l [] = 0
  | [] => rfl
  | a :: l => by
    have := taken_nil l
    unfold taken at this ⊢
    simp only [List.map_cons, List.sum_cons, this]
    rfl
theorem midTaken_all {l : List Sl} {e : Ev} {left : Int → Bool} (h : ∀ s ∈ l, left s.id = true) : midTaken l e left = 0 := by
  induction l with
  | nil => rfl
  | cons a l ih =>
    have := ih (fun s hs => h s (List.mem_cons_of_mem _ hs))
    unfold midTaken at this ⊢
    simp only [List.map_cons, List.sum_cons, this, h a (by simp), if_true]
theorem midTaken_none {l : List Sl} {e : Ev} {left : Int → Bool} (h : ∀ s ∈ l, left s.id = false) : midTaken l e left = taken l [e] := by
  unfold midTaken taken
  congr 1
  refine List.map_congr_left fun s hs => ?_
  rw [h s hs]
  rfl
/-- The cells that the test whether an event fits reads. -/
def PF (g x : Nat) (r : Rl) (h : Hv) (w' : World) : Prop :=
  w'.cell? ⟨g, 0, none⟩ = some (.string r.pre) ∧ w'.cell? ⟨g, 1, none⟩ = some (.slice r.kA r.kinds.length r.kc) ∧ w'.cell? ⟨g, 2, none⟩ = some (.int .i64 r.room) ∧ w'.cell? ⟨g, 3, none⟩ = some (.bool r.oldest) ∧
  w'.cell? ⟨x, 0, none⟩ = some (.int .i64 h.e.kind) ∧ w'.cell? ⟨x, 1, none⟩ = some (.string h.e.key) ∧ w'.cell? ⟨x, 2, none⟩ = some (.slice h.A h.e.val.length h.c) ∧ w'.cell? ⟨x, 3, none⟩ = some (.int .u64 h.e.birth) ∧ w'.cell? ⟨x, 4, none⟩ = some (.int .u64 h.e.due) ∧ w'.cell? ⟨x, 5, none⟩ = some (.int .u64 h.e.at_)
theorem PF.of {g x base : Nat} {t : Wt} {h : Hv} {w' : World} (ht : WtAt w' base g t) (hx : Blk w' x 30 #[.int .i64 h.e.kind, .string h.e.key, .slice h.A h.e.val.length h.c, .int .u64 h.e.birth, .int .u64 h.e.due, .int .u64 h.e.at_]) : PF g x t.rl h w' :=
  ⟨ht.blk.cell 0, ht.blk.cell 1, ht.blk.cell 2, ht.blk.cell 3, hx.cell 0, hx.cell 1, hx.cell 2, hx.cell 3, hx.cell 4, hx.cell 5⟩
theorem put1_cnt (a : Wa) (e : Ev) : (put1 a e).2 ≤ 1 := by by_cases h : a.wait.length = a.rl.room <;> by_cases h2 : a.rl.oldest = true <;> simp [put1, h, h2]
theorem pub1_cnt (a : Wa) (e : Ev) : (pub1 a e).2 ≤ 1 := by
  unfold pub1
  split
  · exact put1_cnt a e
  · exact Nat.zero_le _
theorem pubs_cnt (es : List Ev) : ∀ a : Wa, (pubs a es).2 ≤ es.length := by
  induction es with
  | nil => intro a; exact Nat.le_refl _
  | cons e es ih =>
    intro a
    have h1 := ih (pub1 a e).1
    have h2 := pub1_cnt a e
    show _ + _ ≤ _
    simp only [List.length_cons]; omega
theorem taken_le (es : List Ev) : ∀ l : List Sl, taken l es ≤ l.length * es.length
  | [] => Nat.zero_le _
  | a :: l => by
    have := taken_le es l
    have h1 := pubs_cnt es a.t.abs
    unfold taken at this ⊢
    simp only [List.map_cons, List.sum_cons, List.length_cons, Nat.succ_mul]
    omega
theorem midTaken_le (e : Ev) (left : Int → Bool) : ∀ l : List Sl, midTaken l e left ≤ l.length
  | [] => Nat.zero_le _
  | a :: l => by
    have := midTaken_le e left l
    have h1 := pubs_cnt [e] a.t.abs
    unfold midTaken at this ⊢
    simp only [List.map_cons, List.sum_cons, List.length_cons]
    simp only [List.length_singleton] at h1
    split <;> omega
theorem PF.keep {g x : Nat} {r : Rl} {h : Hv} {w w' : World} (o : PF g x r h w) (h1 : ∀ i, w'.cell? ⟨g, i, none⟩ = w.cell? ⟨g, i, none⟩) (h2 : ∀ i, w'.cell? ⟨x, i, none⟩ = w.cell? ⟨x, i, none⟩) : PF g x r h w' := by
  obtain ⟨a, b, c, d, e, f, g, i, j, k⟩ := o
  exact ⟨(h1 _).trans a, (h1 _).trans b, (h1 _).trans c, (h1 _).trans d, (h2 _).trans e, (h2 _).trans f, (h2 _).trans g, (h2 _).trans i, (h2 _).trans j, (h2 _).trans k⟩
theorem ids_split {a c : List Sl} {s : Sl} (h : (a ++ s :: c).Pairwise fun s s' => s.id ≠ s'.id) : ∀ x ∈ a ++ c, x.id ≠ s.id := by
  obtain ⟨qa, qb, qab⟩ := List.pairwise_append.1 h
  obtain ⟨qsb, qb'⟩ := List.pairwise_cons.1 qb
  intro x hx
  rcases List.mem_append.1 hx with hx | hx
  · exact qab x hx s (by simp)
  · exact (qsb x hx).symm
theorem Mid.step {e : Ev} {left : Int → Bool} {a c a2 c2 : List Sl} {s s' : Sl} (hid : ∀ x ∈ a ++ c, x.id ≠ s.id) (ha : Rel (Mid e left) a a2) (hc : Rel (Mid e left) c c2) (hs : After [e] s s') :
    Rel (Mid e (fun k => left k && !(k == s.id))) (a ++ s :: c) (a2 ++ s' :: c2) := by
  have hk : ∀ x ∈ a ++ c, ∀ x', Mid e left x x' → Mid e (fun k => left k && !(k == s.id)) x x' := fun x hx x' hm => by
    have : (x.id == s.id) = false := by simp; exact hid x hx
    unfold Mid at hm ⊢
    simpa [this] using hm
  refine Rel.join (ha.imp fun x hx => hk x (List.mem_append_left _ hx)) ?_ (hc.imp fun x hx => hk x (List.mem_append_right _ hx))
  unfold Mid
  simpa using hs
theorem after_no {e : Ev} {s : Sl} (h : s.t.rl.toRi.fits e = false) : After [e] s s ∧ (pubs s.t.abs [e]).2 = 0 := by
  have h1 : pub1 s.t.abs e = (s.t.abs, 0) := by unfold pub1; rw [if_neg (by show ¬ s.t.rl.toRi.fits e = true; rw [h]; simp)]
  refine ⟨⟨rfl, rfl, ?_⟩, ?_⟩
  · simp only [pubs, h1]
  · simp only [pubs, h1]
theorem after_put {B : Nat} {e : Ev} {s : Sl} {t' : Wt} {b : Bool} (h : s.t.rl.toRi.fits e = true) (hp : PutsTo B s.t e t' b) (hr : t'.rl = s.t.rl) : After [e] s (s.with_ t') ∧ (pubs s.t.abs [e]).2 = if b = true then 1 else 0 := by
  have h1 : pub1 s.t.abs e = put1 s.t.abs e := by unfold pub1; rw [if_pos (show s.t.abs.rl.toRi.fits e = true from h)]
  have h2 := abs_puts hp hr
  refine ⟨⟨rfl, rfl, ?_⟩, ?_⟩
  · simp only [pubs, h1]; exact h2.1
  · simp only [pubs, h1]; exact h2.2
theorem wb_app (a b : List Hv) : wb (a ++ b) = wb a ++ wb b := by simp [wb]
theorem wb_one_vals {B : Nat} {a b : List Hv} {h : Hv} (hs : (wb b).Sublist (wb a)) (hh : ∀ x, h.A = some x → B ≤ x.block) : VTo B (wb a) (wb (b ++ [h])) := by
  rw [wb_app]
  cases e : h.A with
  | none => rw [show wb [h] = [] by simp [wb, e], List.append_nil]; exact VTo.sub hs
  | some x => rw [show wb [h] = [x.block] by simp [wb, e]]; exact VTo.snoc hs (hh x e)
theorem puts_vals {B : Nat} {t t' : Wt} {e : Ev} {b : Bool} (hp : PutsTo B t e t' b) : VTo B (wb t.wait) (wb t'.wait) := by
  unfold PutsTo at hp
  by_cases h1 : t.wait.length = t.rl.room
  · rw [if_pos h1] at hp
    by_cases h2 : t.rl.oldest = true
    · rw [if_pos h2] at hp
      obtain ⟨_, ⟨h', _, hB, hw⟩, _⟩ := hp
      rw [hw]
      exact wb_one_vals ((List.tail_sublist _).filterMap _) hB
    · rw [if_neg h2] at hp
      rw [hp.2.1]
      exact VTo.refl _ _
  · rw [if_neg h1] at hp
    obtain ⟨_, ⟨h', _, hB, hw⟩, _⟩ := hp
    rw [hw]
    exact wb_one_vals (List.Sublist.refl _) hB
theorem puts_rn {w w' : World} {B base g g' : Nat} {t t' : Wt} {e : Ev} {b : Bool} (hp : PutsTo B t e t' b) (ht : WtAt w base g t) (ht' : WtAt w' base g' t') : t'.rn ≠ 0 := by
  have h1 := ht'.many
  have h2 := ht.room1
  have h3 : 1 ≤ t'.wait.length := by
    unfold PutsTo at hp
    split at hp
    · split at hp
      · obtain ⟨_, ⟨h', _, _, e⟩, _⟩ := hp; rw [e]; simp
      · obtain ⟨_, e, _⟩ := hp; rw [e]; omega
    · obtain ⟨_, ⟨h', _, _, e⟩, _⟩ := hp; rw [e]; simp
  omega
def pubTo (w : World) (base hb n : Nat) (m : Option Nat) (l : List Sl) (hs : List Hv) (e : Ending) (w' : World) : Prop :=
  ∃ l', e = .returned (.tuple #[.int .i64 (taken l (evs hs)), .int .i64 0]) ∧ HubTo w w' base hb m l m n l' ∧ Rel (After (evs hs)) l l'
set_option maxRecDepth 100000 in
set_option maxHeartbeats 4000000 in
theorem pub_some (w : World) (base hb n b : Nat) (l : List Sl) (hs : List Hv) (A : Option Addr) (k c : Nat) (h : HubAt w base hb (some b) n l) (hev : EvsAt w w.heap.size A k hs) (hk : k ≤ 4096) (hbad : badB hs = false) (hlen : ∀ x ∈ hs, x.e.val.length ≤ 65536)
    (hbase : base ≤ w.heap.size) (hlost : ∀ s ∈ l, s.t.lost + k ≤ 1000000000) (hkl : ∀ s ∈ l, s.t.rl.kinds.length ≤ 1000000) (hs1 : 0 < k → ∀ a, A = some a → a.block ∉ hubO hb (some b) l) (hs2 : ∀ x ∈ hs, 0 < x.e.val.length → ∀ a, x.A = some a → a.block < w.heap.size ∧ a.block ∉ hubO hb (some b) l) :
    Calls Try.prog 13 #[.pointer (some ⟨hb, 0, none⟩), .slice A k c] w (pubTo w base hb n (some b) l hs) := by
  have HBAD := Lib.hid (badAny_any A k c hs w hev (by omega))
  rw [hbad] at HBAD
  have HH := Lib.hid h
  have HEV := Lib.hid hev
  have HLEN := Lib.hid hlen
  have HLOST := Lib.hid hlost
  have HKL := Lib.hid hkl
  have HS1 := Lib.hid hs1
  have HS2 := Lib.hid hs2
  have HHL := Lib.hid hev.len
  have hk1 : decide ((4096 : Int) < (k : Int)) = false := by simp; omega
  have hlt0 : (k : Int) ≤ 4096 := by omega
  clear h hev hlen hlost hkl hs1 hs2 hbad
  go_enter Try.func13, Try.ntmps13
  go_wp2_with fail
  refine HBAD.out.mono ?_
  rintro e w1 ⟨rfl, hb1⟩
  have HB1 := Lib.hid hb1
  clear hb1
  go_wp2
  go_loopw [6, 8, 10, 23] (fun x6 _ _ x23 wr => ∃ (j : Nat) (l' : List Sl), j ≤ k ∧ x23 = .int .i64 j ∧ x6 = .int .i64 (taken l (evs (hs.take j))) ∧ HubTo w wr base hb (some b) l (some b) n l' ∧ Rel (After (evs (hs.take j))) l l') (fun _ _ _ x23 _ => k - (intOf x23).toNat)
  case atStart =>
    refine ⟨0, l, Nat.zero_le _, rfl, ?_, HubTo.of_below HH.out HB1.out, ?_⟩
    · show _ = Value.int .i64 (taken l [] : Nat)
      rw [taken_nil]; rfl
    · exact Rel.refl After.zero l
  case round =>
    obtain ⟨j, l1, hj, rfl, rfl, ht, hrel1⟩ := hrel
    obtain ⟨wo, hwo⟩ : ∃ x, x = wr := ⟨wr, rfl⟩
    subst hwo
    have HT := Lib.hid ht
    have HR := Lib.hid hrel1
    clear ht hrel1
    by_cases hlt : j < k
    · have hjl : j < hs.length := by rw [HHL.out]; exact hlt
      have hev1 := HEV.out.chg HT.out.chg HS1.out (fun x hx hp a ha => (HS2.out x hx hp a ha).2)
      have hok := hev1.ok _ (hnth_mem hjl)
      have hsep := HS2.out _ (hnth_mem hjl)
      have hvl := HLEN.out _ (hnth_mem hjl)
      obtain ⟨bA, oA, rfl, hbw, c0, c1, c2, c3, c4, c5⟩ := hev1.at_ hlt
      have hj0 : (0 : Int) ≤ (j : Int) := Int.natCast_nonneg _
      have hj1 : (j : Int) < (k : Int) := by omega
      have HOK := Lib.hid hok
      have HSEP := Lib.hid hsep
      have HVL := Lib.hid hvl
      have HSN := Lib.hid (evs_snoc hjl)
      clear hok hsep hvl hev1
      generalize hnth hs j = h at *
      have m0 := HT.out.hub.blk.cell 0
      simp only [List.getElem?_toArray, List.getElem?_cons_zero] at m0
      have lt0 := HT.out.hub.blk.lt
      have ne0 := World.new_ne wo _ m0
      have hmx := (HT.out.hub.bmap b rfl).1.at_ (w' := wo.alloc (.cells #[.int .i64 h.e.kind, .string h.e.key, .slice h.A h.e.val.length h.c, .int .u64 h.e.birth, .int .u64 h.e.due, .int .u64 h.e.at_] 30)) (Below.heap_alloc _ _ _ (HT.out.hub.bmap b rfl).1.lt)
      go_wp2_with (first
        | (at_range; refine wpList_range_mp _ rfl _ rfl b n _ (slotF l1) rfl hmx ?_; intro w0 hrg0 hg0 hs0)
        | (at_range; fail))
      simp only [World.size_alloc] at hrg0 hs0 ⊢
      have HBW := Lib.hid (((Below.refl _ wo).alloc (Nat.le_refl _) (.cells #[.int .i64 h.e.kind, .string h.e.key, .slice h.A h.e.val.length h.c, .int .u64 h.e.birth, .int .u64 h.e.due, .int .u64 h.e.at_] 30)).grown hg0 (by simp) (fun k hk => by cases hk))
      have HBX0 := Lib.hid ((Blk.new wo 30 #[.int .i64 h.e.kind, .string h.e.key, .slice h.A h.e.val.length h.c, .int .u64 h.e.birth, .int .u64 h.e.due, .int .u64 h.e.at_]).keep (hg0.block wo.heap.size (by simp) (by simp)))
      have HS0 : Hid (w0.heap.size = wo.heap.size + 2) := Lib.hid (by omega)
      have HT0 := Lib.hid (HubTo.of_below HT.out.hub HBW.out)
      have HWW := Lib.hid HT.out.chg.size
      have hok1 : ∀ wi, Chg (hubO hb (some b) l1) wo wi → h.Ok wi w.heap.size := fun wi hc => by
        have hn : 0 < h.e.val.length → ∀ a, h.A = some a → a.block < w.heap.size → a.block ∉ hubO hb (some b) l1 := fun hp a ha hlt hm => by
          rcases HT.out.own _ hm with e | e
          · exact (HSEP.out hp a ha).2 e
          · omega
        refine ⟨⟨HOK.out.val.1, fun hp => ?_⟩, HOK.out.key, HOK.out.nil⟩
        obtain ⟨ad, e, hb2, hc2⟩ := HOK.out.val.2 hp
        exact ⟨ad, e, hb2, fun j u hu => (hc.cell_ (p := ad.add j) (by rw [block_of_add]; exact Nat.lt_of_lt_of_le hb2 HWW.out) (by rw [block_of_add]; exact hn hp ad e hb2)).trans (hc2 j u hu)⟩
      have HOK1 := Lib.hid hok1
      have HRG0 := Lib.hid hrg0
      clear hok1 hrg0 hg0 hs0 hmx m0 lt0 ne0 c0 c1 c2 c3 c4 c5 hbw
      generalize hT0 : taken l (evs (hs.take j)) = T0 at *
      have HTT := Lib.hid hT0
      clear hT0
      go_loopw [6, 10] (fun x6 _ wi => ∃ (left : Int → Bool) (cnt : Nat) (l2 : List Sl), MapRg wi b (wo.heap.size + 1) n (slotF l1) left cnt ∧ HubTo wo wi base hb (some b) l1 (some b) n l2 ∧ Rel (Mid h.e left) l1 l2 ∧ x6 = .int .i64 ((T0 + midTaken l1 h.e left : Nat) : Int) ∧
          Blk wi wo.heap.size 30 #[.int .i64 h.e.kind, .string h.e.key, .slice h.A h.e.val.length h.c, .int .u64 h.e.birth, .int .u64 h.e.due, .int .u64 h.e.at_] ∧ (∀ k ∈ hubO hb (some b) l2, k ∈ hubO hb (some b) l1 ∨ w0.heap.size ≤ k) ∧ w0.heap.size ≤ wi.heap.size) (fun _ _ wi => wi.rangeLeft b (wo.heap.size + 1))
      case atStart =>
        have hall : ∀ s ∈ l1, (slotF l1 s.id).isSome = true := fun s hs => by rw [slotF_mem HT.out.hub.ids hs]; rfl
        refine ⟨_, _, l1, HRG0.out, HT0.out, ?_, ?_, HBX0.out, fun k hk => Or.inl hk, Nat.le_refl _⟩
        · exact (Rel.refl (R := fun s s' => s' = s) (fun _ => rfl) l1).imp (fun s hs s' e => by unfold Mid; rw [if_pos (hall s hs)]; exact e)
        · rw [midTaken_all hall]; rfl
      case round =>
        obtain ⟨left, cnt, l2, hrg2, ht2, hr2, rfl, hbx2, hown2, hsz2⟩ := hrel
        have HRG2 := Lib.hid hrg2
        have HT2 := Lib.hid ht2
        have HR2 := Lib.hid hr2
        have HBX2 := Lib.hid hbx2
        have HO2 := Lib.hid hown2
        have HZ2 := Lib.hid hsz2
        clear hrg2 ht2 hr2 hbx2 hown2 hsz2
        go_wp2_with (first
          | (at_next; refine wpList_next_mp _ rfl (.tmp 31) rfl b (wo.heap.size + 1) n (slotF l1) left cnt rfl HRG2.out ?_ ?_)
          | (at_next; fail))
        · intro hl0
          have hl1 : ∀ s ∈ l1, left s.id = false := fun s hs => by
            have := HT.out.hub.range s hs
            exact hl0 _ (wf_id this.1 this.2)
          have hR : Rel (After [h.e]) l1 l2 := HR2.out.imp (fun s hs s' hm => by unfold Mid at hm; rwa [if_neg (by rw [hl1 s hs]; simp)] at hm)
          have hM := midTaken_none (e := h.e) hl1
          have HRR := Lib.hid hR
          have HMM := Lib.hid hM
          clear hl0 hl1 hR hM
          go_wp2
          go_roundw
          case rel =>
            refine ⟨j + 1, l2, by omega, by go_num, ?_, HT.out.trans HT2.out, ?_⟩
            · rw [HSN.out, taken_snoc HR.out, HTT.out, ← HMM.out]; rfl
            · rw [HSN.out]
              exact Rel.trans (R := After (evs (hs.take j))) (R' := After [h.e]) (fun a b c h1 h2 => After.snoc h1 h2) HR.out HRR.out
          case measure => simp [intOf]; omega
        · intro x g w1 cnt1 hwx hlx hF hrg1 hlt1 hg1 hs1 hen
          obtain ⟨gc⟩ := g
          obtain ⟨s, hsm, rfl, hgs⟩ := slotF_some hF
          simp only at hgs hen
          subst hgs
          have HRG1 := Lib.hid hrg1
          have HCN := Lib.hid hlt1
          have HLX := Lib.hid hlx
          obtain ⟨a, c', hl1⟩ := List.append_of_mem hsm
          have hR2 := HR2.out
          rw [hl1] at hR2
          obtain ⟨a2, s2, c2, rfl, r1, r2, r3⟩ := Rel.split hR2
          have es : s = s2 := by unfold Mid at r2; rw [if_pos hlx] at r2; exact r2.symm
          subst es
          have HL1 := Lib.hid hl1
          have HR1 := Lib.hid r1
          have HR3 := Lib.hid r3
          have HIDS : Hid (∀ x ∈ a ++ c', x.id ≠ s.id) := Lib.hid (ids_split (hl1 ▸ HT.out.hub.ids))
          have HNX : Hid (∀ k ∈ hubO hb (some b) (a2 ++ s :: c2), k ≠ wo.heap.size ∧ k ≠ wo.heap.size + 1) := Lib.hid (fun k hk => by
            rcases HO2.out _ hk with e | e
            · have := HT.out.hub.lt _ e; omega
            · have := HS0.out; omega)
          have HT3 := Lib.hid (HT2.out.past (Chg.of_row hg1) (fun k hk => by
            have hk' : k = wo.heap.size + 1 := by simpa using hk
            subst hk'
            exact ⟨by omega, fun e => (HNX.out _ e).2 rfl, HRG2.out.noRow⟩))
          have HBX1 := Lib.hid (HBX2.out.keep (hg1.block wo.heap.size HBX2.out.lt (by simp)))
          have hws := HT3.out.hub.wts s (by simp)
          have HWS := Lib.hid hws
          have HPF := Lib.hid (show PF s.g wo.heap.size s.t.rl h w1.drew from PF.keep (PF.of hws.1 HBX1.out) (fun _ => rfl) (fun _ => rfl))
          obtain ⟨s0, hs0, hA⟩ := Rel.mem HR.out s hsm
          have hrl0 : s.t.rl = s0.t.rl := by
            have := congrArg Wa.rl hA.2.2
            rw [pubs_rl] at this; exact this
          have hkn : s.t.rl.kinds.length ≤ 1000000 := by rw [hrl0]; exact HKL.out s0 hs0
          have HLO : Hid (s.t.lost ≤ 1000000000) := Lib.hid (by
            have e1 := congrArg Wa.lost hA.2.2
            have e2 := pubs_lost (evs (List.take j hs)) s0.t.abs
            have e3 := HLOST.out s0 hs0
            have e4 : (evs (List.take j hs)).length ≤ j := by unfold evs; simp; omega
            have e5 : s.t.abs.lost = s.t.lost := rfl
            have e6 : s0.t.abs.lost = s0.t.lost := rfl
            omega)
          have HAPS : Hid (0 < h.e.val.length → ∀ ad, h.A = some ad → ad.block ≠ s.g ∧ ad.block ≠ s.t.rg) := Lib.hid (fun hp ad ha => by
            have hlw := (HSEP.out hp ad ha).1
            have hm : ∀ k ∈ hubO hb (some b) (a2 ++ s :: c2), ad.block ≠ k := fun k hk e => by
              subst e
              rcases HO2.out _ hk with e | e
              · rcases HT.out.own _ e with e | e
                · exact (HSEP.out hp ad ha).2 e
                · omega
              · have := HWW.out; have := HS0.out; omega
            exact ⟨hm _ (by rw [mem_hubO]; exact Or.inr (Or.inr ⟨s, by simp, Or.inl rfl⟩)), hm _ (by rw [mem_hubO]; exact Or.inr (Or.inr ⟨s, by simp, Or.inr rfl⟩))⟩)
          have hfit := fits_any s.t.rl.toRi h w1.drew (hws.1.kinds.imp id (fun h => Reads.of_own h)) hkn
          have HZ1 : Hid (w0.heap.size ≤ w1.heap.size) := Lib.hid (Nat.le_trans HZ2.out hg1.size)
          clear hrg1 hlt1 hlx hR2 r1 r2 r3 hws hs0 hA hrl0 hkn hg1 hs1 hF hwx hl1 hsm
          cases hf : s.t.rl.toRi.fits h.e with
          | false =>
            rw [hf] at hfit
            simp only [Ri.v, Rl.toRi, Hv.v] at hfit
            have HFIT := Lib.hid hfit
            have HF := Lib.hid (after_no hf)
            clear hfit hf
            go_wp2
            refine wp_region_noPanic ?_
            refine wp_region_held_drew (S := fun w' => w'.cell? ⟨s.g, 0, none⟩ = some (.string s.t.rl.pre) ∧ w'.cell? ⟨s.g, 1, none⟩ = some (.slice s.t.rl.kA s.t.rl.kinds.length s.t.rl.kc) ∧ w'.cell? ⟨s.g, 2, none⟩ = some (.int .i64 s.t.rl.room) ∧ w'.cell? ⟨s.g, 3, none⟩ = some (.bool s.t.rl.oldest) ∧ w'.cell? ⟨wo.heap.size, 0, none⟩ = some (.int .i64 h.e.kind) ∧ w'.cell? ⟨wo.heap.size, 1, none⟩ = some (.string h.e.key) ∧ w'.cell? ⟨wo.heap.size, 2, none⟩ = some (.slice h.A h.e.val.length h.c) ∧ w'.cell? ⟨wo.heap.size, 3, none⟩ = some (.int .u64 h.e.birth) ∧ w'.cell? ⟨wo.heap.size, 4, none⟩ = some (.int .u64 h.e.due) ∧ w'.cell? ⟨wo.heap.size, 5, none⟩ = some (.int .u64 h.e.at_)) (by kernel_rfl) HPF.out (fun hHeld => ?_)
            refine wpAnyH_take (i := 0) (oi := { dst := some 36, op := Op.move (Operand.tmp 10), type := 74, pos := "watch.go:150", after := #[], guard := none }) (v := ?_) rfl (by kernel_rfl) (by kernel_rfl) (by kernel_rfl) (fun _ _ _ h => h) (Or.inl ⟨by rfl, ?_⟩) hHeld ?_
            rotate_left 1
            · intro wz hSw
              try dsimp only at hSw
              go_simp
              try with_reducible rfl
            try simp only [Act.put, List.setIfInBounds_toArray, List.set_cons_zero, List.set_cons_succ]
            refine wpAnyH_take (i := 1) (oi := { dst := some 37, op := Op.nilCheck (Operand.tmp 36), type := 0, pos := "watch.go:150", after := #[{ on := 0, ground := Ground.data }], guard := none }) (v := ?_) rfl (by kernel_rfl) (by kernel_rfl) (by kernel_rfl) (fun _ _ _ h => h) (Or.inl ⟨by rfl, ?_⟩) hHeld ?_
            rotate_left 1
            · intro wz hSw
              try dsimp only at hSw
              go_simp
              try with_reducible rfl
            try simp only [Act.put, List.setIfInBounds_toArray, List.set_cons_zero, List.set_cons_succ]
            refine wpAnyH_take (i := 2) (oi := { dst := some 38, op := Op.fieldAddr 76 (Operand.tmp 37) 0, type := 0, pos := "watch.go:150", after := #[{ on := 1, ground := Ground.data }], guard := none }) (v := ?_) rfl (by kernel_rfl) (by kernel_rfl) (by kernel_rfl) (fun _ _ _ h => h) (Or.inl ⟨by rfl, ?_⟩) hHeld ?_
            rotate_left 1
            · intro wz hSw
              try dsimp only at hSw
              go_simp
              try with_reducible rfl
            try simp only [Act.put, List.setIfInBounds_toArray, List.set_cons_zero, List.set_cons_succ]
            refine wpAnyH_take (i := 3) (oi := { dst := some 39, op := Op.load 24 (Operand.tmp 38), type := 24, pos := "watch.go:150", after := #[{ on := 2, ground := Ground.data }], guard := none }) (v := ?_) rfl (by kernel_rfl) (by kernel_rfl) (by kernel_rfl) (fun _ _ _ h => h) (Or.inl ⟨by rfl, ?_⟩) hHeld ?_
            rotate_left 1
            · intro wz hSw
              try dsimp only at hSw
              go_simp
              try with_reducible rfl
            try simp only [Act.put, List.setIfInBounds_toArray, List.set_cons_zero, List.set_cons_succ]
            refine wpAnyH_take (i := 4) (oi := { dst := some 40, op := Op.load 30 (Operand.tmp 8), type := 30, pos := "watch.go:150", after := #[], guard := none }) (v := ?_) rfl (by kernel_rfl) (by kernel_rfl) (by kernel_rfl) (fun _ _ _ h => h) (Or.inl ⟨by rfl, ?_⟩) hHeld ?_
            rotate_left 1
            · intro wz hSw
              try dsimp only at hSw
              go_simp
              try with_reducible rfl
            try simp only [Act.put, List.setIfInBounds_toArray, List.set_cons_zero, List.set_cons_succ]
            refine wpAnyH_ready (rs := [5]) (by kernel_rfl) (by simp) ?_
            refine AllReadyH.cons (o := { dst := some 41, op := Op.call { callee := Callee.value (Operand.func 9), args := #[Operand.tmp 39, Operand.tmp 40], argTypes := #[24, 30] }, type := 4, pos := "watch.go:150", after := #[{ on := 3, ground := Ground.data }, { on := 4, ground := Ground.data }], guard := none }) rfl (fun K hK => ?_) AllReadyH.nil
            go_simp
            refine (HFIT.out).mono ?_
            rintro e w2 ⟨rfl, hb2⟩
            have hc2 : Chg [] w1 w2 := ((Chg.refl [] w1).drew).trans (Chg.below hb2 []) (fun _ h => by cases h)
            have HC2 := Lib.hid hc2
            have HT4 := Lib.hid (HT3.out.past hc2 (fun k hk => by cases hk))
            refine hK.out _ _ ((show PF s.g wo.heap.size s.t.rl h w2 from PF.keep (show PF s.g wo.heap.size s.t.rl h w1.drew from hHeld) (fun i => hb2.cell (show s.g < w1.heap.size from HWS.out.1.blk.lt)) (fun i => hb2.cell (show wo.heap.size < w1.heap.size from HBX1.out.lt)))) (fun hHeld => ?_)
            clear hK K
            try simp only [Act.put, List.setIfInBounds_toArray, List.set_cons_zero, List.set_cons_succ]
            refine wpAnyH_take (i := 6) (oi := { dst := some 42, op := Op.move (Operand.tmp 41), type := 4, pos := "watch.go:150", after := #[{ on := 5, ground := Ground.data }, { on := 5, ground := Ground.chain }], guard := none }) (v := ?_) rfl (by kernel_rfl) (by kernel_rfl) (by kernel_rfl) (fun _ _ _ h => h) (Or.inl ⟨by rfl, ?_⟩) hHeld ?_
            rotate_left 1
            · intro wz hSw
              try dsimp only at hSw
              go_simp
              try with_reducible rfl
            try simp only [Act.put, List.setIfInBounds_toArray, List.set_cons_zero, List.set_cons_succ]
            refine wpAnyH_take (i := 7) (oi := { dst := some 43, op := Op.move (Operand.tmp 10), type := 74, pos := "watch.go:150", after := #[{ on := 6, ground := Ground.guard }], guard := some (6, true) }) (v := undef) rfl (by kernel_rfl) (by kernel_rfl) (by kernel_rfl) (fun _ _ _ h => h) (Or.inr ⟨by rfl, rfl⟩) hHeld ?_
            try simp only [Act.put, List.setIfInBounds_toArray, List.set_cons_zero, List.set_cons_succ]
            refine wpAnyH_take (i := 8) (oi := { dst := some 44, op := Op.load 30 (Operand.tmp 8), type := 30, pos := "watch.go:150", after := #[{ on := 6, ground := Ground.guard }], guard := some (6, true) }) (v := undef) rfl (by kernel_rfl) (by kernel_rfl) (by kernel_rfl) (fun _ _ _ h => h) (Or.inr ⟨by rfl, rfl⟩) hHeld ?_
            try simp only [Act.put, List.setIfInBounds_toArray, List.set_cons_zero, List.set_cons_succ]
            refine wpAnyH_take (i := 9) (oi := { dst := some 45, op := Op.call { callee := Callee.value (Operand.func 36), args := #[Operand.tmp 43, Operand.tmp 44], argTypes := #[74, 30] }, type := 4, pos := "watch.go:150", after := #[{ on := 7, ground := Ground.data }, { on := 8, ground := Ground.data }, { on := 6, ground := Ground.chain }, { on := 6, ground := Ground.guard }], guard := some (6, true) }) (v := undef) rfl (by kernel_rfl) (by kernel_rfl) (by kernel_rfl) (fun _ _ _ h => h) (Or.inr ⟨by rfl, rfl⟩) hHeld ?_
            try simp only [Act.put, List.setIfInBounds_toArray, List.set_cons_zero, List.set_cons_succ]
            refine wpAnyH_take (i := 10) (oi := { dst := some 46, op := Op.pick (Operand.tmp 42) (Operand.tmp 45) (Operand.const (Value.bool false)), type := 4, pos := "watch.go:150", after := #[{ on := 6, ground := Ground.data }, { on := 9, ground := Ground.data }], guard := none }) (v := ?_) rfl (by kernel_rfl) (by kernel_rfl) (by kernel_rfl) (fun _ _ _ h => h) (Or.inl ⟨by rfl, ?_⟩) hHeld ?_
            rotate_left 1
            · intro wz hSw
              try dsimp only at hSw
              go_simp
              try with_reducible rfl
            try simp only [Act.put, List.setIfInBounds_toArray, List.set_cons_zero, List.set_cons_succ]
            refine wpAnyH_done (by kernel_rfl) ?_ _
            refine NoPanic.normal ?_
            go_wp2
            go_roundw
            case rel =>
              refine ⟨_, cnt1, a2 ++ s :: c2, HRG1.out.at_ (HC2.out.block b HRG1.out.lt.2 (by simp)) (HC2.out.block _ HRG1.out.lt.1 (by simp)), HT4.out, ?_, ?_, HC2.out.blk HBX1.out (by simp), HO2.out, Nat.le_trans HZ1.out HC2.out.size⟩
              · rw [HL1.out]
                exact Mid.step HIDS.out HR1.out HR3.out HF.out.1
              · rw [HL1.out, midTaken_strike HIDS.out HLX.out, HF.out.2, Nat.add_zero, ← HL1.out]
                rfl
            case measure =>
              rw [(HRG1.out.at_ (HC2.out.block b HRG1.out.lt.2 (by simp)) (HC2.out.block _ HRG1.out.lt.1 (by simp))).left_eq, HRG2.out.left_eq]
              exact HCN.out
          | true =>
            rw [hf] at hfit
            simp only [Ri.v, Rl.toRi, Hv.v] at hfit
            have HFIT := Lib.hid hfit
            have HF := Lib.hid hf
            clear hfit hf
            go_wp2
            refine wp_region_noPanic ?_
            refine wp_region_held_drew (S := fun w' => w'.cell? ⟨s.g, 0, none⟩ = some (.string s.t.rl.pre) ∧ w'.cell? ⟨s.g, 1, none⟩ = some (.slice s.t.rl.kA s.t.rl.kinds.length s.t.rl.kc) ∧ w'.cell? ⟨s.g, 2, none⟩ = some (.int .i64 s.t.rl.room) ∧ w'.cell? ⟨s.g, 3, none⟩ = some (.bool s.t.rl.oldest) ∧ w'.cell? ⟨wo.heap.size, 0, none⟩ = some (.int .i64 h.e.kind) ∧ w'.cell? ⟨wo.heap.size, 1, none⟩ = some (.string h.e.key) ∧ w'.cell? ⟨wo.heap.size, 2, none⟩ = some (.slice h.A h.e.val.length h.c) ∧ w'.cell? ⟨wo.heap.size, 3, none⟩ = some (.int .u64 h.e.birth) ∧ w'.cell? ⟨wo.heap.size, 4, none⟩ = some (.int .u64 h.e.due) ∧ w'.cell? ⟨wo.heap.size, 5, none⟩ = some (.int .u64 h.e.at_)) (by kernel_rfl) HPF.out (fun hHeld => ?_)
            refine wpAnyH_take (i := 0) (oi := { dst := some 36, op := Op.move (Operand.tmp 10), type := 74, pos := "watch.go:150", after := #[], guard := none }) (v := ?_) rfl (by kernel_rfl) (by kernel_rfl) (by kernel_rfl) (fun _ _ _ h => h) (Or.inl ⟨by rfl, ?_⟩) hHeld ?_
            rotate_left 1
            · intro wz hSw
              try dsimp only at hSw
              go_simp
              try with_reducible rfl
            try simp only [Act.put, List.setIfInBounds_toArray, List.set_cons_zero, List.set_cons_succ]
            refine wpAnyH_take (i := 1) (oi := { dst := some 37, op := Op.nilCheck (Operand.tmp 36), type := 0, pos := "watch.go:150", after := #[{ on := 0, ground := Ground.data }], guard := none }) (v := ?_) rfl (by kernel_rfl) (by kernel_rfl) (by kernel_rfl) (fun _ _ _ h => h) (Or.inl ⟨by rfl, ?_⟩) hHeld ?_
            rotate_left 1
            · intro wz hSw
              try dsimp only at hSw
              go_simp
              try with_reducible rfl
            try simp only [Act.put, List.setIfInBounds_toArray, List.set_cons_zero, List.set_cons_succ]
            refine wpAnyH_take (i := 2) (oi := { dst := some 38, op := Op.fieldAddr 76 (Operand.tmp 37) 0, type := 0, pos := "watch.go:150", after := #[{ on := 1, ground := Ground.data }], guard := none }) (v := ?_) rfl (by kernel_rfl) (by kernel_rfl) (by kernel_rfl) (fun _ _ _ h => h) (Or.inl ⟨by rfl, ?_⟩) hHeld ?_
            rotate_left 1
            · intro wz hSw
              try dsimp only at hSw
              go_simp
              try with_reducible rfl
            try simp only [Act.put, List.setIfInBounds_toArray, List.set_cons_zero, List.set_cons_succ]
            refine wpAnyH_take (i := 3) (oi := { dst := some 39, op := Op.load 24 (Operand.tmp 38), type := 24, pos := "watch.go:150", after := #[{ on := 2, ground := Ground.data }], guard := none }) (v := ?_) rfl (by kernel_rfl) (by kernel_rfl) (by kernel_rfl) (fun _ _ _ h => h) (Or.inl ⟨by rfl, ?_⟩) hHeld ?_
            rotate_left 1
            · intro wz hSw
              try dsimp only at hSw
              go_simp
              try with_reducible rfl
            try simp only [Act.put, List.setIfInBounds_toArray, List.set_cons_zero, List.set_cons_succ]
            refine wpAnyH_take (i := 4) (oi := { dst := some 40, op := Op.load 30 (Operand.tmp 8), type := 30, pos := "watch.go:150", after := #[], guard := none }) (v := ?_) rfl (by kernel_rfl) (by kernel_rfl) (by kernel_rfl) (fun _ _ _ h => h) (Or.inl ⟨by rfl, ?_⟩) hHeld ?_
            rotate_left 1
            · intro wz hSw
              try dsimp only at hSw
              go_simp
              try with_reducible rfl
            try simp only [Act.put, List.setIfInBounds_toArray, List.set_cons_zero, List.set_cons_succ]
            refine wpAnyH_ready (rs := [5]) (by kernel_rfl) (by simp) ?_
            refine AllReadyH.cons (o := { dst := some 41, op := Op.call { callee := Callee.value (Operand.func 9), args := #[Operand.tmp 39, Operand.tmp 40], argTypes := #[24, 30] }, type := 4, pos := "watch.go:150", after := #[{ on := 3, ground := Ground.data }, { on := 4, ground := Ground.data }], guard := none }) rfl (fun K hK => ?_) AllReadyH.nil
            go_simp
            refine (HFIT.out).mono ?_
            rintro e w2 ⟨rfl, hb2⟩
            have hc2 : Chg [] w1 w2 := ((Chg.refl [] w1).drew).trans (Chg.below hb2 []) (fun _ h => by cases h)
            have HC2 := Lib.hid hc2
            have HT4 := Lib.hid (HT3.out.past hc2 (fun k hk => by cases hk))
            have hws4 := HT4.out.hub.wts s (by simp)
            have hle4 : w.heap.size ≤ w2.heap.size := Nat.le_trans HWW.out HT4.out.chg.size
            have hput := put_any w2 base s.g s.t h hws4.1 HLO.out ((HOK1.out w2 HT4.out.chg).more hle4) HVL.out (Nat.le_trans hbase hle4) HAPS.out hws4.2.2.2.1
            simp only [Hv.v] at hput
            have HPUT := Lib.hid hput
            have HWS4 := Lib.hid hws4
            clear hput hws4 hle4
            refine hK.out _ _ ((show PF s.g wo.heap.size s.t.rl h w2 from PF.keep (show PF s.g wo.heap.size s.t.rl h w1.drew from hHeld) (fun i => hb2.cell (show s.g < w1.heap.size from HWS.out.1.blk.lt)) (fun i => hb2.cell (show wo.heap.size < w1.heap.size from HBX1.out.lt)))) (fun hHeld => ?_)
            clear hK K
            try simp only [Act.put, List.setIfInBounds_toArray, List.set_cons_zero, List.set_cons_succ]
            refine wpAnyH_take (i := 6) (oi := { dst := some 42, op := Op.move (Operand.tmp 41), type := 4, pos := "watch.go:150", after := #[{ on := 5, ground := Ground.data }, { on := 5, ground := Ground.chain }], guard := none }) (v := ?_) rfl (by kernel_rfl) (by kernel_rfl) (by kernel_rfl) (fun _ _ _ h => h) (Or.inl ⟨by rfl, ?_⟩) hHeld ?_
            rotate_left 1
            · intro wz hSw
              try dsimp only at hSw
              go_simp
              try with_reducible rfl
            try simp only [Act.put, List.setIfInBounds_toArray, List.set_cons_zero, List.set_cons_succ]
            refine wpAnyH_take (i := 7) (oi := { dst := some 43, op := Op.move (Operand.tmp 10), type := 74, pos := "watch.go:150", after := #[{ on := 6, ground := Ground.guard }], guard := some (6, true) }) (v := ?_) rfl (by kernel_rfl) (by kernel_rfl) (by kernel_rfl) (fun _ _ _ h => h) (Or.inl ⟨by rfl, ?_⟩) hHeld ?_
            rotate_left 1
            · intro wz hSw
              try dsimp only at hSw
              go_simp
              try with_reducible rfl
            try simp only [Act.put, List.setIfInBounds_toArray, List.set_cons_zero, List.set_cons_succ]
            refine wpAnyH_take (i := 8) (oi := { dst := some 44, op := Op.load 30 (Operand.tmp 8), type := 30, pos := "watch.go:150", after := #[{ on := 6, ground := Ground.guard }], guard := some (6, true) }) (v := ?_) rfl (by kernel_rfl) (by kernel_rfl) (by kernel_rfl) (fun _ _ _ h => h) (Or.inl ⟨by rfl, ?_⟩) hHeld ?_
            rotate_left 1
            · intro wz hSw
              try dsimp only at hSw
              go_simp
              try with_reducible rfl
            try simp only [Act.put, List.setIfInBounds_toArray, List.set_cons_zero, List.set_cons_succ]
            refine wpAnyH_ready (rs := [9]) (by kernel_rfl) (by simp) ?_
            refine AllReadyH.cons (o := { dst := some 45, op := Op.call { callee := Callee.value (Operand.func 36), args := #[Operand.tmp 43, Operand.tmp 44], argTypes := #[74, 30] }, type := 4, pos := "watch.go:150", after := #[{ on := 7, ground := Ground.data }, { on := 8, ground := Ground.data }, { on := 6, ground := Ground.chain }, { on := 6, ground := Ground.guard }], guard := some (6, true) }) rfl (fun K hK => ?_) AllReadyH.nil
            go_simp
            refine (HPUT.out).mono ?_
            rintro e w3 ⟨t', bb, rfl, hwt, hc3, hrl, hrg, hp⟩
            have HWT := Lib.hid hwt
            have HC3 := Lib.hid hc3
            have HRL := Lib.hid hrl
            have HRGG := Lib.hid hrg
            have HPP := Lib.hid hp
            have HBX3 := Lib.hid (HC3.out.blk (HC2.out.blk HBX1.out (by simp)) (by simp only [List.mem_cons, List.not_mem_nil, or_false, not_or]; exact ⟨(HNX.out s.g (by rw [mem_hubO]; exact Or.inr (Or.inr ⟨s, by simp, Or.inl rfl⟩))).1.symm, (HNX.out s.t.rg (by rw [mem_hubO]; exact Or.inr (Or.inr ⟨s, by simp, Or.inr rfl⟩))).1.symm⟩))
            clear hwt hc3 hrl hrg hp
            refine hK.out _ _ ((show PF s.g wo.heap.size s.t.rl h w3 from by have := PF.of HWT.out HBX3.out; rwa [HRL.out] at this)) (fun hHeld => ?_)
            clear hK K
            try simp only [Act.put, List.setIfInBounds_toArray, List.set_cons_zero, List.set_cons_succ]
            refine wpAnyH_take (i := 10) (oi := { dst := some 46, op := Op.pick (Operand.tmp 42) (Operand.tmp 45) (Operand.const (Value.bool false)), type := 4, pos := "watch.go:150", after := #[{ on := 6, ground := Ground.data }, { on := 9, ground := Ground.data }], guard := none }) (v := ?_) rfl (by kernel_rfl) (by kernel_rfl) (by kernel_rfl) (fun _ _ _ h => h) (Or.inl ⟨by rfl, ?_⟩) hHeld ?_
            rotate_left 1
            · intro wz hSw
              try dsimp only at hSw
              go_simp
              try with_reducible rfl
            try simp only [Act.put, List.setIfInBounds_toArray, List.set_cons_zero, List.set_cons_succ]
            refine wpAnyH_done (by kernel_rfl) ?_ _
            refine NoPanic.normal ?_
            have hAF := after_put HF.out HPP.out HRL.out
            have hin : ∀ k ∈ [s.g, s.t.rg], k ∈ hubO hb (some b) (a2 ++ s :: c2) := fun k hk => by
              simp only [List.mem_cons, List.not_mem_nil, or_false] at hk
              rw [mem_hubO]
              exact Or.inr (Or.inr ⟨s, by simp, hk⟩)
            have hRG3 : MapRg w3 b (wo.heap.size + 1) n (slotF l1) (fun k => left k && !(k == s.id)) cnt1 := by
              have h1 := HRG1.out.at_ (HC2.out.block b HRG1.out.lt.2 (by simp)) (HC2.out.block _ HRG1.out.lt.1 (by simp))
              refine h1.at_ (HC3.out.block b h1.lt.2 (fun e => ?_)) (HC3.out.block _ h1.lt.1 (fun e => (HNX.out _ (hin _ e)).2 rfl))
              have hmp := (HT4.out.hub.bmap b rfl).1
              simp only [List.mem_cons, List.not_mem_nil, or_false] at e
              rcases e with e | e
              · exact map_blk_ne hmp HWS4.out.1.blk e
              · obtain ⟨cs, ty, h2, _⟩ := HT4.out.hub.rgType (s := s) (by simp)
                exact map_blk_ne hmp h2 e
            have hrn := puts_rn HPP.out HWS4.out.1 HWT.out
            have hslot := HubAt.slot HT4.out.hub t' HC3.out HWT.out (Nat.le_trans hbase (Nat.le_trans HWW.out HT4.out.chg.size)) (by
              rcases HRGG.out with e | e
              · exact Or.inl e.1
              · obtain ⟨cs, h2, _⟩ := HWT.out.ring hrn
                exact Or.inr ⟨e, h2.lt⟩) (fun e => absurd e hrn) (puts_vals HPP.out)
            have HT5 := Lib.hid (HT4.out.trans hslot)
            have hO5 : ∀ k ∈ hubO hb (some b) (a2 ++ s.with_ t' :: c2), k ∈ hubO hb (some b) l1 ∨ w0.heap.size ≤ k := fun k hk => by
              rcases hslot.own k hk with e | e
              · exact HO2.out k e
              · exact Or.inr (Nat.le_trans HZ1.out (Nat.le_trans HC2.out.size e))
            have HRG3 := Lib.hid hRG3
            have HAF := Lib.hid hAF
            have HO5 := Lib.hid hO5
            have hz3 : Hid (w0.heap.size ≤ w3.heap.size) := Lib.hid (Nat.le_trans HZ1.out (Nat.le_trans HC2.out.size HC3.out.size))
            clear hAF hin hRG3 hrn hslot hO5
            cases bb with
            | true =>
              go_wp2
              go_roundw
              case rel =>
                refine ⟨_, cnt1, a2 ++ s.with_ t' :: c2, HRG3.out, HT5.out, ?_, ?_, HBX3.out, HO5.out, hz3.out⟩
                · rw [HL1.out]
                  exact Mid.step HIDS.out HR1.out HR3.out HAF.out.1
                · rw [HL1.out, midTaken_strike HIDS.out HLX.out, HAF.out.2, ← HL1.out, if_pos rfl]
                  have b1 : T0 ≤ 262144 := by
                    have h1 := taken_le (evs (hs.take j)) l
                    have h2 := HH.out.len_le
                    have h3 : (evs (hs.take j)).length ≤ 4096 := by unfold evs; simp; omega
                    rw [HTT.out] at h1
                    exact Nat.le_trans h1 (Nat.le_trans (Nat.mul_le_mul h2 h3) (by omega))
                  have b2 : midTaken l1 h.e left ≤ 64 := Nat.le_trans (midTaken_le _ _ _) HT.out.hub.len_le
                  generalize midTaken l1 h.e left = M at *
                  refine congrArg (Value.int .i64) ?_
                  unfold wrap64
                  omega
              case measure =>
                rw [HRG3.out.left_eq, HRG2.out.left_eq]
                exact HCN.out
            | false =>
              go_wp2
              go_roundw
              case rel =>
                refine ⟨_, cnt1, a2 ++ s.with_ t' :: c2, HRG3.out, HT5.out, ?_, ?_, HBX3.out, HO5.out, hz3.out⟩
                · rw [HL1.out]
                  exact Mid.step HIDS.out HR1.out HR3.out HAF.out.1
                · rw [HL1.out, midTaken_strike HIDS.out HLX.out, HAF.out.2, ← HL1.out, if_neg (by simp), Nat.add_zero]
                  rfl
              case measure =>
                rw [HRG3.out.left_eq, HRG2.out.left_eq]
                exact HCN.out
    · have hjk : j = k := by omega
      have hd : decide ((j : Int) < (k : Int)) = false := by simp; omega
      have hHL := HHL.out
      have htk : hs.take j = hs := List.take_of_length_le (by omega)
      have HTK := Lib.hid htk
      clear htk hHL hjk
      go_wp2
      go_ret2
      refine ⟨l1, ?_, HT.out, ?_⟩
      · rw [HTK.out]; rfl
      · have := HR.out
        rwa [HTK.out] at this
end Go.Proofs.Ytfimgkjdfjlkhaa
