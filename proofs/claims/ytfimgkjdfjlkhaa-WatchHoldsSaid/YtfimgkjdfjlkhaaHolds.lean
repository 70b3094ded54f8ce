/- WatchHolds: for all rules and calls the law answers true and all reads as before. No condition. -/
import Derived.Test.YtfimgkjdfjlkhaaNc
import Derived.Maps.AppendAt
namespace Go.Proofs.Ytfimgkjdfjlkhaa
open Go.ChangeShapes Go.WideShapes Go.ChangeAt Go.RowKit Go.Deep Go.Maps

/-- 'append(s, x)' of one element onto a row of the call's own, and where it lies then. -/
theorem wpList_app1_h {P : Program} {ops : Array Oper} {rest : List Oper} {o : Oper} {a : Act} {Q : Exit → Act → World → Prop} (w0 : World) (hgd : o.guard = none) (s x : Operand) (t : TypeId)
    (ho : o.op = .call { callee := .builtin .append, args := #[s, x], argTypes := #[t, t] })
    (base : Nat) (e : TypeId) (size bytes : Nat) (z : Value) (hinfo : (P.info? e).map (fun i => (i.zero, i.size, i.bytes)) = some (some z, size, bytes)) (ht : P.underlying t = some (.slice e)) (hzs : z.cells.size = size) (hsz : 0 < size)
    (v : Value) (n : Nat) (xs cs : List Value) (hs : a.eval s = v) (hown : w0.ownsRow base e size v n xs) (hcs : cs.length = size) (h1 : ∀ u ∈ cs, u.oneCell' = true)
    (hx : a.eval x = .slice (some ⟨w0.heap.size, 0, none⟩) 1 1) (h63 : n + 1 ≤ maxLen) (hbytes : (n + 1) * bytes ≤ 140737488355328) (hbase : base ≤ w0.heap.size)
    (h : ∀ v' w', w'.ownsRow base e size v' (n + 1) (xs ++ cs) → w0.grownBy w' v.ownBlock → (v'.ownBlock = v.ownBlock ∨ v'.ownBlock = some (w0.heap.size + 1)) → wpList P ops Q rest (a.put o.dst v') w') : wpList P ops Q (o :: rest) a (w0.alloc (.cells cs.toArray e)) := by
  obtain ⟨i0, hi, hz0, hz1, hz2⟩ := info_parts hinfo
  refine wpList_append_own_at (w := w0.alloc (.cells cs.toArray e)) hgd s x t ho base e i0 z size bytes ht hi hz0 hz1 hz2 hzs hsz v n xs hs (hown.alloc _) ⟨w0.heap.size, 0, none⟩ 1 1 cs hx (by omega) ?_ h1 h63 hbytes (by simp; omega) ?_
  · intro j u hj
    have hs : (w0.alloc (.cells cs.toArray e)).heap[w0.heap.size]? = some (.cells cs.toArray e) := heap_alloc_new w0 _
    rw [add_spot _ _ rfl]
    simp only [Nat.zero_add]
    unfold World.cell?
    rw [hs]
    simpa using hj
  · intro v' w' hown' hg _ hat
    exact h v' w' hown' ((World.grownBy_alloc _ _ _).trans hg) (by rwa [World.size_alloc] at hat)
theorem RiIn.at_ {W w : World} {r : Ri} (h : RiIn W r) (hb : Below W.heap.size W w) : KindsAt w r := Or.inr ((h.kinds.below hb).more hb.size)
theorem RiIn.far {W : World} {r : Ri} (h : RiIn W r) {hb : Nat} (hlt : W.heap.size ≤ hb) : 0 < r.kinds.length → ∀ a, r.kA = some a → a.block ≠ hb := fun hl a ha => by
  obtain ⟨ad, e, hb2, _⟩ := h.kinds.2 hl
  rw [ha] at e
  injection e with e
  subst e
  omega
/-- Two new hubs. -/
def twoW (w : World) : World := (w.alloc (.cells #[.map none] 36)).alloc (.cells #[.map none] 36)
theorem Two.new (w : World) : Two w (twoW w) w.heap.size (w.heap.size + 1) none 0 [] none 0 [] where
  h1 := (HubAt.new w w.heap.size (Nat.le_refl _)).below ((Below.refl _ _).alloc (Nat.le_refl _) _)
  h2 := by
    have h := HubAt.new (w.alloc (.cells #[.map none] 36)) w.heap.size (by simp)
    rw [World.size_alloc] at h
    exact h
  dis := fun k hk e => by
    rw [mem_hubO] at hk e
    rcases hk with rfl | hk | ⟨s, hs, _⟩
    · rcases e with e | e | ⟨s, hs, _⟩
      · omega
      · cases e
      · cases hs
    · cases hk
    · cases hs
  below := ((Below.refl _ w).alloc (Nat.le_refl _) _).alloc (by simp) _
theorem twoW_blk {w : World} {g : Nat} {t : TypeId} {cs : Array Value} (h : Blk w g t cs) : Blk (twoW w) g t cs := (h.alloc _).alloc _
/-- The loop's own words. -/
def HR (W0 : World) (hb1 hb2 : Nat) (r : Ri) (n : Nat) (x12 x9 x10 x11 : Value) (wr : World) : Prop :=
  ∃ (i tk fr : Nat) (m1 : Option Nat) (n1 : Nat) (s1 : Sl) (b1 : List Sl) (m2 : Option Nat) (n2 : Nat) (s2 : Sl) (A : Option Addr) (c : Nat) (hs : List Hv), i ≤ n ∧ x12 = .int .i64 i ∧ x9 = .slice A hs.length c ∧ x10 = .int .i64 tk ∧ x11 = .int .i64 fr ∧
    Two W0 wr hb1 hb2 m1 n1 (s1 :: b1) m2 n2 [s2] ∧ AllAt W0 wr (hubO hb1 m1 (s1 :: b1)) (hubO hb2 m2 [s2]) (.slice A hs.length c) hs ∧ Cnt r s1 b1 s2 (evs hs) tk fr i
theorem newSl_is (k : Int) (g : Nat) (r : Ri) (A : Option Addr) (c : Nat) : RlIs (newSl k g r A c).t.rl r := ⟨rfl, rfl, rfl, rfl⟩
theorem Cnt.zero {r : Ri} {g1 c1 g2 c2 : Nat} {A1 A2 : Option Addr} {b1 : List Sl} (hk : r.kinds.length ≤ 10) (hb : ∀ s ∈ b1, s.t.lost = 0 ∧ s.t.rl.kinds.length ≤ 10) : Cnt r (newSl ((0 : Nat) : Int) g1 r A1 c1) b1 (newSl ((0 : Nat) : Int) g2 r A2 c2) [] 0 0 0 where
  r1 := newSl_is _ _ _ _ _
  r2 := newSl_is _ _ _ _ _
  id1 := rfl
  id2 := rfl
  same := rfl
  sum := rfl
  le := Nat.le_refl _
  sub := List.Sublist.refl _
  few := Nat.zero_le _
  lost := fun s hs => by
    rcases List.mem_cons.1 hs with rfl | hs
    · exact Nat.le_refl _
    · rw [(hb s hs).1]; omega
  lost2 := Nat.le_refl _
  kl := fun s hs => by
    rcases List.mem_cons.1 hs with rfl | hs
    · exact hk
    · exact (hb s hs).2
  kl2 := hk
theorem EvsAt.fst_lt {w : World} {B n : Nat} {A : Option Addr} {hs : List Hv} (h : EvsAt w B A n hs) (hn : 0 < n) {a : Addr} (ha : A = some a) : a.block < B := by
  obtain ⟨ad, e, hb, _⟩ := h.cells.2 hn
  rw [ha] at e
  injection e with e
  subst e
  exact hb
theorem Hv.Ok.fst_lt {w : World} {B : Nat} {h : Hv} (o : h.Ok w B) (hn : 0 < h.e.val.length) {a : Addr} (ha : h.A = some a) : a.block < B := by
  obtain ⟨ad, e, hb, _⟩ := o.val.2 hn
  rw [ha] at e
  injection e with e
  subst e
  exact hb
theorem EvOwn.noRow {w w1 : World} {base : Nat} {O : List Nat} {x : Hv} (hc : Chg O w w1) (hO : ∀ k ∈ O, NoRow w k) (hx : EvOwn w base x) : EvOwn w1 base x :=
  ⟨own_same hx.1 (fun k hk => hc.block k (hx.1.lt k hk).2 (fun e => by
    obtain ⟨cs, hh⟩ := own_row hx.1 hk
    exact (hO k e cs).1 hh)), hx.2⟩
theorem Rel.cons_ {R : Sl → Sl → Prop} {s : Sl} {b l' : List Sl} (h : Rel R (s :: b) l') : ∃ s' b', l' = s' :: b' ∧ R s s' ∧ Rel R b b' := by
  cases l' with
  | nil => exact h.elim
  | cons s' b' => exact ⟨s', b', rfl, h.1, h.2⟩
theorem Rel.nil_ {R : Sl → Sl → Prop} {l' : List Sl} (h : Rel R [] l') : l' = [] := by
  cases l' with
  | nil => rfl
  | cons _ _ => exact h.elim
theorem published.ok {w w' : World} {base hb n : Nat} {m : Option Nat} {l : List Sl} {hs : List Hv} {e : Ending} (h : published w base hb n m l hs e w') (hbad : badB hs = false) (hl : hs.length ≤ 4096) : pubTo w base hb n m l hs e w' := by
  rcases h with ⟨h1, _⟩ | ⟨_, h1, _⟩ | ⟨_, _, h⟩
  · rw [hbad] at h1; cases h1
  · omega
  · exact h
theorem evs_drop {l : List Hv} {q : Nat} (h : q < l.length) : (evs l).drop q = (hnth l q).e :: (evs l).drop (q + 1) := by
  rw [drop_cons (by rw [evs_len]; exact h), hnth_eq h]
  congr 1
  unfold evs
  rw [List.getElem_map]
theorem hnth_take {l : List Hv} {q k : Nat} (h : q < k) : hnth (l.take k) q = hnth l q := by
  unfold hnth
  rw [List.getD, List.getD, List.getElem?_take_of_lt h]
theorem evs_nth {a b : List Hv} {q : Nat} (h : evs a = evs b) (hq : q < a.length) : (hnth a q).e = (hnth b q).e := by
  have hl : a.length = b.length := by rw [← evs_len, ← evs_len, h]
  have h1 := evs_drop hq
  have h2 := evs_drop (l := b) (q := q) (by omega)
  rw [h, h2] at h1
  injection h1 with h1 _
  exact h1.symm
theorem sub_lt {x : Ev} {rest : List Ev} {hs : List Hv} {f : Nat} (h : (x :: rest).Sublist ((evs hs).drop f)) : f < hs.length := by
  rcases Nat.lt_or_ge f hs.length with e | e
  · exact e
  · rw [List.drop_eq_nil_of_le (by rw [evs_len]; exact e)] at h
    exact absurd (List.Sublist.length_le h) (by simp)
theorem fitting_snoc (r : Ri) (es : List Ev) (e : Ev) : fitting r (es ++ [e]) = fitting r es ++ (if r.fits e = true then [e] else []) := by
  unfold fitting
  rw [List.filter_append]
  cases hf : r.fits e <;> simp [hf]
/-- Publishing events that came in. -/
theorem pub_in {w : World} {W : World} {base hb n : Nat} {m : Option Nat} {l : List Sl} {es : List Hv} {eA : Option Addr} {ec : Nat} (h : HubAt w base hb m n l) (hev : EvsAt W W.heap.size eA es.length es) (hB : Below W.heap.size W w) (hbW : W.heap.size ≤ base) (hbase : base ≤ w.heap.size)
    (hl : es.length ≤ 20) (hv : ∀ x ∈ es, x.e.val.length ≤ 100) (hlost : ∀ s ∈ l, s.t.lost ≤ 1000000) (hkl : ∀ s ∈ l, s.t.rl.kinds.length ≤ 10) (hbad : badB es = false) :
    Calls Try.prog 13 #[.pointer (some ⟨hb, 0, none⟩), .slice eA es.length ec] w (pubTo w base hb n m l es) := by
  refine (pub_any w base hb n m l es eA es.length ec h ((hev.below hB).more hB.size) (by omega) (fun x hx => by have := hv x hx; omega) hbase (fun s hs => by have := hlost s hs; omega) (fun s hs => by have := hkl s hs; omega)
    (fun hn a ha e => by have := hev.fst_lt hn ha; have := h.ge _ e; omega) (fun x hx hn a ha => by
      have h1 := (hev.ok x hx).fst_lt hn ha
      exact ⟨by have := hB.size; omega, fun e => by have := h.ge _ e; omega⟩)).mono fun e w' hp => hp.ok hbad (by omega)
set_option maxRecDepth 100000 in
set_option maxHeartbeats 8000000 in
theorem holds_law (r o : Ri) (l : List Ac) (A : Option Addr) (n c : Nat) (w : World) (hr : RiIn w r) (ho : RiIn w o) (hn : l.length = n) (hl : Reads w w.heap.size 8 A n (l.flatMap Ac.cells)) (hin : ∀ a ∈ l, AcIn w a) (hmax : n ≤ maxLen) :
    Calls Try.prog 5 #[r.v, o.v, .slice A n c] w fun e w' => e = .returned (.bool true) ∧ Below w.heap.size w w' := by
  have k0 := (Blk.new w 24 r.cells).alloc (.cells o.cells 24)
  have k1 := Blk.new (w.alloc (.cells r.cells 24)) 24 o.cells
  rw [World.size_alloc] at k1
  have hW : Below w.heap.size w ((w.alloc (.cells r.cells 24)).alloc (.cells o.cells 24)) := ((Below.refl _ w).alloc (Nat.le_refl _) _).alloc (by simp) _
  have HW := Lib.hid hW
  have HF := Lib.hid (few_any l A n c 30 ((w.alloc (.cells r.cells 24)).alloc (.cells o.cells 24)) hn ((hl.below hW).more hW.size) (fun a ha => by
    have h := hin a ha
    exact ⟨h.what, h.n, h.m, ⟨(h.r.kinds.below hW).more hW.size, h.r.wf, h.r.len, h.r.nil, h.r.room, h.r.pre⟩, (h.evs.below hW).more hW.size, fun x hx => ⟨((h.each x hx).ok.below hW).more hW.size, (h.each x hx).wf, (h.each x hx).len⟩, h.len, h.nil⟩) hmax (by omega))
  have HL := Lib.hid hl
  have HIN := Lib.hid hin
  have HRI := Lib.hid hr
  have HOI := Lib.hid ho
  have HK0 := Lib.hid k0
  have HK1 := Lib.hid k1
  have HN := Lib.hid hn
  unfold maxLen at hmax
  clear hl hin hr ho hW k0 k1 hn
  obtain ⟨p, kinds, room, oldest, kA, kc⟩ := r
  obtain ⟨p', kinds', room', oldest', kA', kc'⟩ := o
  simp only [Ri.v, Ri.cells] at HF HW HK0 HK1 ⊢
  go_enter Try.func5, Try.ntmps5
  go_wp2_with fail
  refine HF.out.mono ?_
  rintro e w1 ⟨bf, rfl, hbf, hb1⟩
  have HBF := Lib.hid hbf
  have HB1 := Lib.hid (HW.out.trans (hb1.mono HW.out.size))
  have HK01 := Lib.hid (HK0.out.below hb1 HK0.out.lt)
  have HK11 := Lib.hid (HK1.out.below hb1 HK1.out.lt)
  have a0 := HK01.out.cell 0
  have a1 := HK01.out.cell 1
  have a2 := HK01.out.cell 2
  have a3 := HK01.out.cell 3
  simp only [List.getElem?_toArray, List.getElem?_cons_zero, List.getElem?_cons_succ] at a0 a1 a2 a3
  have b0 := HK11.out.cell 0
  have b1 := HK11.out.cell 1
  have b2 := HK11.out.cell 2
  have b3 := HK11.out.cell 3
  simp only [List.getElem?_toArray, List.getElem?_cons_zero, List.getElem?_cons_succ] at b0 b1 b2 b3
  clear hbf hb1 HF HK0 HK1
  cases bf with
  | false =>
    clear a0 a1 a2 a3 b0 b1 b2 b3
    go_wp2_with fail
    refine (known_any _).mono ?_
    rintro e w9 ⟨rfl, hb9⟩
    have HB9 := Lib.hid (HB1.out.trans (hb9.mono HB1.out.size))
    clear hb9
    go_wp2
    go_ret
    exact ⟨rfl, HB9.out⟩
  | true =>
    have hfew := HBF.out rfl
    have HFEW := Lib.hid hfew
    have hn30 : Hid (n ≤ 30) := Lib.hid (by rw [← HN.out]; exact hfew.1)
    clear hfew HBF
    by_cases t1 : (10 : Int) < (kinds.length : Int)
    · skip
      go_wp2_with fail
      refine (known_any _).mono ?_
      rintro e w9 ⟨rfl, hb9⟩
      have HB9 := Lib.hid (HB1.out.trans (hb9.mono HB1.out.size))
      clear hb9
      go_wp2
      go_ret
      exact ⟨rfl, HB9.out⟩
    · by_cases t2 : (300 : Int) < (p.size : Int)
      · skip
        go_wp2_with fail
        refine (known_any _).mono ?_
        rintro e w9 ⟨rfl, hb9⟩
        have HB9 := Lib.hid (HB1.out.trans (hb9.mono HB1.out.size))
        clear hb9
        go_wp2
        go_ret
        exact ⟨rfl, HB9.out⟩
      · have HV := Lib.hid (lawValid_any ⟨p, kinds, room, oldest, kA, kc⟩ w1 (HRI.out.at_ HB1.out) (by show kinds.length ≤ 1000000; omega))
        go_wp2_with fail
        refine HV.out.mono ?_
        rintro e w2 ⟨rfl, hb2⟩
        have HB2 := Lib.hid (HB1.out.trans (hb2.mono HB1.out.size))
        have HK02 := Lib.hid (HK01.out.below hb2 HK01.out.lt)
        have HK12 := Lib.hid (HK11.out.below hb2 HK11.out.lt)
        clear a0 a1 a2 a3 b0 b1 b2 b3
        have a0 := HK02.out.cell 0
        have a1 := HK02.out.cell 1
        have a2 := HK02.out.cell 2
        have a3 := HK02.out.cell 3
        simp only [List.getElem?_toArray, List.getElem?_cons_zero, List.getElem?_cons_succ] at a0 a1 a2 a3
        have b0 := HK12.out.cell 0
        have b1 := HK12.out.cell 1
        have b2 := HK12.out.cell 2
        have b3 := HK12.out.cell 3
        simp only [List.getElem?_toArray, List.getElem?_cons_zero, List.getElem?_cons_succ] at b0 b1 b2 b3
        clear hb2 HV
        cases hvr : validRi ⟨p, kinds, room, oldest, kA, kc⟩ with
        | false =>
          clear a0 a1 a2 a3 b0 b1 b2 b3
          go_wp2_with fail
          refine (known_any _).mono ?_
          rintro e w9 ⟨rfl, hb9⟩
          have HB9 := Lib.hid (HB2.out.trans (hb9.mono HB2.out.size))
          clear hb9
          go_wp2
          go_ret
          exact ⟨rfl, HB9.out⟩
        | true =>
          have HVR := Lib.hid hvr
          clear hvr
          by_cases t3 : (10 : Int) < (kinds'.length : Int)
          · skip
            go_wp2_with fail
            refine (known_any _).mono ?_
            rintro e w9 ⟨rfl, hb9⟩
            have HB9 := Lib.hid (HB2.out.trans (hb9.mono HB2.out.size))
            clear hb9
            go_wp2
            go_ret
            exact ⟨rfl, HB9.out⟩
          · by_cases t4 : (300 : Int) < (p'.size : Int)
            · skip
              go_wp2_with fail
              refine (known_any _).mono ?_
              rintro e w9 ⟨rfl, hb9⟩
              have HB9 := Lib.hid (HB2.out.trans (hb9.mono HB2.out.size))
              clear hb9
              go_wp2
              go_ret
              exact ⟨rfl, HB9.out⟩
            · have HT0 := Lib.hid (Two.new w2)
              have HKD0 := Lib.hid (twoW_blk HK02.out)
              have HKD1 := Lib.hid (twoW_blk HK12.out)
              have hbt : Hid (Below w2.heap.size w2 (twoW w2)) := Lib.hid HT0.out.below
              have HK10 : Hid (kinds.length ≤ 10) := Lib.hid (by omega)
              have HK10' : Hid (kinds'.length ≤ 10) := Lib.hid (by omega)
              have HA1 := Lib.hid (adds_new (twoW w2) w2.heap.size w2.heap.size 0 none [] ⟨p, kinds, room, oldest, kA, kc⟩ 0 HT0.out.h1 (HRI.out.at_ (HB2.out.trans (hbt.out.mono HB2.out.size))) (by show kinds.length ≤ 1000000; omega) hbt.out.size (by omega) HRI.out.nil (HRI.out.far HB2.out.size) HVR.out (by simp) free_zero)
              clear a0 a1 a2 a3 b2 b3
              have a0 := HKD0.out.cell 0
              have a1 := HKD0.out.cell 1
              have a2 := HKD0.out.cell 2
              have a3 := HKD0.out.cell 3
              simp only [List.getElem?_toArray, List.getElem?_cons_zero, List.getElem?_cons_succ] at a0 a1 a2 a3
              unfold twoW at a0 a1 a2 a3 HA1
              simp only [Ri.v] at HA1
              go_wp2_with fail
              refine HA1.out.mono ?_
              rintro e w3 ⟨rfl, mb1, g1, c1, n1, A1, hT1, hn1⟩
              have HW1 := Lib.hid (HT0.out.step1 hT1)
              have HN1 := Lib.hid hn1
              have HA2 := Lib.hid (adds_new w3 w2.heap.size (w2.heap.size + 1) 0 none [] ⟨p, kinds, room, oldest, kA, kc⟩ 0 HW1.out.h2 (HRI.out.at_ (HB2.out.trans (HW1.out.below.mono HB2.out.size))) (by show kinds.length ≤ 1000000; omega) HW1.out.below.size (by omega) HRI.out.nil (HRI.out.far (Nat.le_trans HB2.out.size (Nat.le_succ _))) HVR.out (by simp) free_zero)
              have kd := HK02.out.below HW1.out.below HK02.out.lt
              clear a0 a1 a2 a3 b0 b1 hT1 hn1 HA1
              have a0 := kd.cell 0
              have a1 := kd.cell 1
              have a2 := kd.cell 2
              have a3 := kd.cell 3
              simp only [List.getElem?_toArray, List.getElem?_cons_zero, List.getElem?_cons_succ] at a0 a1 a2 a3
              simp only [Ri.v] at HA2
              clear kd
              go_wp2_with fail
              refine HA2.out.mono ?_
              rintro e w4 ⟨rfl, mb2, g2, c2, n2, A2, hT2, hn2⟩
              have HW2 := Lib.hid (HW1.out.step2 hT2)
              have HA3 := Lib.hid (add_any w4 w2.heap.size w2.heap.size n1 (some mb1) _ ⟨p', kinds', room', oldest', kA', kc'⟩ HW2.out.h1 (HOI.out.at_ (HB2.out.trans (HW2.out.below.mono HB2.out.size))) (by show kinds'.length ≤ 1000000; omega) HW2.out.below.size (by have := HN1.out; omega) HOI.out.nil (HOI.out.far HB2.out.size))
              have kd := HK12.out.below HW2.out.below HK12.out.lt
              clear a0 a1 a2 a3 hT2 hn2 HA2
              have b0 := kd.cell 0
              have b1 := kd.cell 1
              have b2 := kd.cell 2
              have b3 := kd.cell 3
              simp only [List.getElem?_toArray, List.getElem?_cons_zero, List.getElem?_cons_succ] at b0 b1 b2 b3
              simp only [Ri.v] at HA3
              clear kd
              go_wp2_with fail
              refine HA3.out.mono ?_
              intro e w5 ha
              have hst : ∃ (m1 : Option Nat) (n1 : Nat) (b1 : List Sl), Two w2 w5 w2.heap.size (w2.heap.size + 1) m1 n1 (newSl ((0 : Nat) : Int) g1 ⟨p, kinds, room, oldest, kA, kc⟩ A1 c1 :: b1) (some mb2) n2 [newSl ((0 : Nat) : Int) g2 ⟨p, kinds, room, oldest, kA, kc⟩ A2 c2] ∧ ∀ s ∈ b1, s.t.lost = 0 ∧ s.t.rl.kinds.length ≤ 10 := by
                rcases ha with ⟨_, _, hb⟩ | ⟨_, _, _, hb⟩ | ⟨_, _, k3, b3, g3, c3, n3, A3, _, _, _, hT3, _⟩
                · exact ⟨_, _, [], HW2.out.on hb, fun s hs => by cases hs⟩
                · exact ⟨_, _, [], HW2.out.on hb, fun s hs => by cases hs⟩
                · exact ⟨_, _, [newSl (k3 : Int) g3 ⟨p', kinds', room', oldest', kA', kc'⟩ A3 c3], HW2.out.step1 hT3, fun s hs => by
                    simp only [List.mem_singleton] at hs
                    subst hs
                    exact ⟨rfl, HK10'.out⟩⟩
              obtain ⟨k9, q9, rfl⟩ := ha.pair
              obtain ⟨m1, n1', bb1, hTW, hbb⟩ := hst
              have HTW := Lib.hid hTW
              have HC := Lib.hid (Cnt.zero (g1 := g1) (c1 := c1) (g2 := g2) (c2 := c2) (A1 := A1) (A2 := A2) (r := ⟨p, kinds, room, oldest, kA, kc⟩) HK10.out hbb)
              clear ha hTW hbb b0 b1 b2 b3 HA3 HW1 HW2 HT0 HKD0 HKD1 hbt
              go_wp2
              go_loopw [12, 9, 10, 11] (fun x12 x9 x10 x11 wr => HR w2 w2.heap.size (w2.heap.size + 1) ⟨p, kinds, room, oldest, kA, kc⟩ n x12 x9 x10 x11 wr) (fun x12 _ _ _ _ => n - (intOf x12).toNat)
              case atStart => exact ⟨0, 0, 0, m1, n1', _, bb1, some mb2, n2, _, none, 0, [], Nat.zero_le _, rfl, rfl, rfl, rfl, HTW.out, ⟨World.ownsRow_nil _ _ _ _, (fun k hk => by cases hk), fun h hh => by cases hh⟩, HC.out⟩
              case round =>
                clear HTW HC
                obtain ⟨wo, hwo⟩ : ∃ x, x = wr := ⟨wr, rfl⟩
                subst hwo
                obtain ⟨i, tk, fr, m1, n1, s1, b1, m2, n2, s2, AX, cX, hs, hi, rfl, rfl, rfl, rfl, htw, hall, hcnt⟩ := hrel
                have HT := Lib.hid htw
                have HA := Lib.hid hall
                have HC := Lib.hid hcnt
                clear htw hall hcnt
                have hBW : Below w.heap.size w wo := HB2.out.trans (HT.out.below.mono HB2.out.size)
                have HBW := Lib.hid hBW
                have hbnd : Hid ((evs hs).length ≤ 600 ∧ (evs hs).length = hs.length) := Lib.hid ⟨by have := HC.out.few; have := hn30.out; omega, evs_len hs⟩
                by_cases hlt : i < n
                · have hi0 : (0 : Int) ≤ (i : Int) := Int.natCast_nonneg _
                  have hi1 : (i : Int) < (n : Int) := by omega
                  obtain ⟨bX, oX, rfl, hbX, hc⟩ := reads8 (HL.out.below hBW) HN.out hlt
                  obtain ⟨a, hae⟩ : ∃ a, a = anth l i := ⟨_, rfl⟩
                  have hal : a ∈ l := by rw [hae]; exact anth_mem (by rw [HN.out]; exact hlt)
                  rw [← hae] at hc
                  have HLA := Lib.hid (HFEW.out.2 a hal)
                  have HAI := Lib.hid (HIN.out a hal)
                  clear hae hal hBW
                  obtain ⟨what, an, am, ⟨rp, rk, rroom, rold, rkA, rkc⟩, eA, ec, es⟩ := a
                  have q0 := hc 0 _ rfl
                  have q1 := hc 1 _ rfl
                  have q2 := hc 2 _ rfl
                  have q3 := hc 3 _ rfl
                  have q4 := hc 4 _ rfl
                  have q5 := hc 5 _ rfl
                  have q6 := hc 6 _ rfl
                  have q7 := hc 7 _ rfl
                  simp only [Nat.add_zero] at q0 q1 q2 q3 q4 q5 q6 q7
                  clear hc
                  have hb6 : Below wo.heap.size wo (wo.alloc (.cells #[.int .i64 what, .int .i64 an, .int .i64 am, .string rp, .slice rkA rk.length rkc, .int .i64 rroom, .bool rold, .slice eA es.length ec] 50)) := (Below.refl _ _).alloc (Nat.le_refl _) _
                  have kX := Blk.new wo 50 #[.int .i64 what, .int .i64 an, .int .i64 am, .string rp, .slice rkA rk.length rkc, .int .i64 rroom, .bool rold, .slice eA es.length ec]
                  have HKX := Lib.hid kX
                  have HT6 := Lib.hid (HT.out.on hb6)
                  have HA6 := Lib.hid (HA.out.on hb6)
                  have HB6 := Lib.hid (HBW.out.trans (hb6.mono HBW.out.size))
                  have HO1 := Lib.hid HT.out.h1.lt
                  have HO2 := Lib.hid HT.out.h2.lt
                  have HZ6 : Hid (wo.heap.size < (wo.alloc (.cells #[.int .i64 what, .int .i64 an, .int .i64 am, .string rp, .slice rkA rk.length rkc, .int .i64 rroom, .bool rold, .slice eA es.length ec] 50)).heap.size) := Lib.hid (by simp)
                  clear hb6 HT HA
                  have x0 := kX.cell 0
                  have x2 := kX.cell 2
                  have x7 := kX.cell 7
                  simp only [List.getElem?_toArray, List.getElem?_cons_zero, List.getElem?_cons_succ] at x0 x2 x7
                  clear kX
                  by_cases hw1 : what = 1
                  · subst hw1
                    have HFI := Lib.hid (fine_any eA es.length ec es _ ((HAI.out.evs.below HB6.out).more HB6.out.size) (by have := HLA.out.few; simp only at this; omega))
                    go_wp2_with fail
                    refine HFI.out.mono ?_
                    rintro e w7 ⟨rfl, hb7⟩
                    have HT7 := Lib.hid (HT6.out.on hb7)
                    have HA7 := Lib.hid (HA6.out.on hb7)
                    have HB7 := Lib.hid (HB6.out.trans (hb7.mono HB6.out.size))
                    have HKX7 := Lib.hid (HKX.out.below hb7 HKX.out.lt)
                    have kX7 := HKX7.out
                    clear x0 x2 x7 q0 q1 q2 q3 q4 q5 q6 q7 hb7 HFI
                    have x0 := kX7.cell 0
                    have x2 := kX7.cell 2
                    have x7 := kX7.cell 7
                    simp only [List.getElem?_toArray, List.getElem?_cons_zero, List.getElem?_cons_succ] at x0 x2 x7
                    clear kX7
                    cases hbad : badB es with
                    | true =>
                      clear x2 x7
                      go_wp2
                      go_roundw
                      case rel => exact ⟨i + 1, tk, fr, m1, n1, s1, b1, m2, n2, s2, AX, cX, hs, by omega, by go_num, rfl, rfl, rfl, HT7.out, HA7.out, HC.out.more⟩
                      case measure => simp [intOf]; omega
                    | false =>
                      have hl20 : Hid (es.length ≤ 20) := Lib.hid HLA.out.few
                      have HP1 := Lib.hid (pub_in (ec := ec) HT7.out.h1 HAI.out.evs HB7.out HB2.out.size HT7.out.below.size hl20.out (fun x hx => (HLA.out.each x hx).2) (fun s hs => by have := HC.out.lost s hs; have := hn30.out; omega) HC.out.kl hbad)
                      go_wp2_with fail
                      refine HP1.out.mono ?_
                      rintro e w8 ⟨l1, rfl, hto, hrel⟩
                      obtain ⟨s1', b1', rfl, ha1, hab⟩ := hrel.cons_
                      have HA1 := Lib.hid ha1
                      have HAB := Lib.hid hab
                      have HT8 := Lib.hid (HT7.out.step1 hto)
                      have HA8 := Lib.hid (HA7.out.step1 hto.chg hto.own)
                      have HKX8 := Lib.hid (hto.chg.blk HKX7.out (fun e => by have := HO1.out _ e; omega))
                      have HB8 := Lib.hid (HB2.out.trans (HT8.out.below.mono HB2.out.size))
                      have kX8 := HKX8.out
                      have HP2 := Lib.hid (pub_in (ec := ec) HT8.out.h2 HAI.out.evs HB8.out HB2.out.size HT8.out.below.size hl20.out (fun x hx => (HLA.out.each x hx).2) (fun s hs => by simp only [List.mem_singleton] at hs; subst hs; have := HC.out.lost2; have := hn30.out; omega) (fun s hs => by simp only [List.mem_singleton] at hs; subst hs; exact HC.out.kl2) hbad)
                      clear x0 x2 x7 hto hrel ha1 hab HP1
                      have x0 := kX8.cell 0
                      have x2 := kX8.cell 2
                      have x7 := kX8.cell 7
                      simp only [List.getElem?_toArray, List.getElem?_cons_zero, List.getElem?_cons_succ] at x0 x2 x7
                      clear kX8
                      go_wp2_with fail
                      refine HP2.out.mono ?_
                      rintro e w9 ⟨l2, rfl, hto, hrel⟩
                      obtain ⟨s2', b2', rfl, ha2, hab2⟩ := hrel.cons_
                      have e2 := hab2.nil_
                      subst e2
                      have HA2 := Lib.hid ha2
                      have HT9 := Lib.hid (HT8.out.step2 hto)
                      have HA9 := Lib.hid (HA8.out.step2 hto.chg hto.own)
                      have HKX9 := Lib.hid (hto.chg.blk HKX8.out (fun e => by have := HO2.out _ e; omega))
                      have kX9 := HKX9.out
                      clear x0 x2 x7 hto hrel ha2 hab2 HP2
                      have x0 := kX9.cell 0
                      have x2 := kX9.cell 2
                      have x7 := kX9.cell 7
                      simp only [List.getElem?_toArray, List.getElem?_cons_zero, List.getElem?_cons_succ] at x0 x2 x7
                      clear kX9
                      go_wp2
                      go_loopw [18, 9] (fun x18 x9 wi => ∃ (k : Nat) (A' : Option Addr) (c' : Nat) (hs' : List Hv), k ≤ es.length ∧ x18 = .int .i64 k ∧ x9 = .slice A' hs'.length c' ∧ evs hs' = evs hs ++ fitting ⟨p, kinds, room, oldest, kA, kc⟩ (evs (es.take k)) ∧
                        Two w2 wi w2.heap.size (w2.heap.size + 1) m1 n1 (s1' :: b1') m2 n2 [s2'] ∧ AllAt w2 wi (hubO w2.heap.size m1 (s1' :: b1')) (hubO (w2.heap.size + 1) m2 [s2']) (.slice A' hs'.length c') hs' ∧ Blk wi wo.heap.size 50 #[.int .i64 1, .int .i64 an, .int .i64 am, .string rp, .slice rkA rk.length rkc, .int .i64 rroom, .bool rold, .slice eA es.length ec]) (fun x18 _ _ => es.length - (intOf x18).toNat)
                      case atStart => exact ⟨0, AX, cX, hs, Nat.zero_le _, rfl, rfl, by simp [fitting, evs], HT9.out, HA9.out, HKX9.out⟩
                      case round =>
                        obtain ⟨k, A', c', hs', hk, rfl, rfl, hev, htw, hall, hkx⟩ := hrel
                        have HEV := Lib.hid hev
                        have HTI := Lib.hid htw
                        have HAI2 := Lib.hid hall
                        have HKI := Lib.hid hkx
                        have HBI := Lib.hid (HB2.out.trans (htw.below.mono HB2.out.size))
                        have hl21 := hl20.out
                        clear x0 x2 x7 hev htw hall
                        have x0 := hkx.cell 0
                        have x2 := hkx.cell 2
                        have x7 := hkx.cell 7
                        simp only [List.getElem?_toArray, List.getElem?_cons_zero, List.getElem?_cons_succ] at x0 x2 x7
                        clear hkx
                        by_cases hkl : k < es.length
                        · have hk0 : (0 : Int) ≤ (k : Int) := Int.natCast_nonneg _
                          have hk1 : (k : Int) < (es.length : Int) := by omega
                          obtain ⟨bE, oE, he, hbE, y0, y1, y2, y3, y4, y5⟩ := (HAI.out.evs.below HBI.out).at_ hkl
                          simp only at he
                          subst he
                          obtain ⟨h, hh⟩ : ∃ h, h = hnth es k := ⟨_, rfl⟩
                          rw [← hh] at y0 y1 y2 y3 y4 y5
                          have HHH := Lib.hid hh
                          have kd := HK02.out.below HTI.out.below HK02.out.lt
                          have HS := Lib.hid (show wr.drew.cell? ⟨w.heap.size, 0, none⟩ = some (.string p) ∧ wr.drew.cell? ⟨w.heap.size, 1, none⟩ = some (.slice kA kinds.length kc) ∧ wr.drew.cell? ⟨w.heap.size, 2, none⟩ = some (.int .i64 room) ∧ wr.drew.cell? ⟨w.heap.size, 3, none⟩ = some (.bool oldest) ∧ wr.drew.cell? ⟨wo.heap.size, 7, none⟩ = some (.slice (some ⟨bE, oE, none⟩) es.length ec) ∧ wr.drew.cell? ⟨bE, oE + k * 6, none⟩ = some (.int .i64 h.e.kind) ∧ wr.drew.cell? ⟨bE, oE + k * 6 + 1, none⟩ = some (.string h.e.key) ∧ wr.drew.cell? ⟨bE, oE + k * 6 + 2, none⟩ = some (.slice h.A h.e.val.length h.c) ∧ wr.drew.cell? ⟨bE, oE + k * 6 + 3, none⟩ = some (.int .u64 h.e.birth) ∧ wr.drew.cell? ⟨bE, oE + k * 6 + 4, none⟩ = some (.int .u64 h.e.due) ∧ wr.drew.cell? ⟨bE, oE + k * 6 + 5, none⟩ = some (.int .u64 h.e.at_) from ⟨kd.cell 0, kd.cell 1, kd.cell 2, kd.cell 3, HKI.out.cell 7, y0, y1, y2, y3, y4, y5⟩)
                          have HKP : Hid (∀ wz wz2 : World, ((fun wz : World => wz.cell? ⟨w.heap.size, 0, none⟩ = some (.string p) ∧ wz.cell? ⟨w.heap.size, 1, none⟩ = some (.slice kA kinds.length kc) ∧ wz.cell? ⟨w.heap.size, 2, none⟩ = some (.int .i64 room) ∧ wz.cell? ⟨w.heap.size, 3, none⟩ = some (.bool oldest) ∧ wz.cell? ⟨wo.heap.size, 7, none⟩ = some (.slice (some ⟨bE, oE, none⟩) es.length ec) ∧ wz.cell? ⟨bE, oE + k * 6, none⟩ = some (.int .i64 h.e.kind) ∧ wz.cell? ⟨bE, oE + k * 6 + 1, none⟩ = some (.string h.e.key) ∧ wz.cell? ⟨bE, oE + k * 6 + 2, none⟩ = some (.slice h.A h.e.val.length h.c) ∧ wz.cell? ⟨bE, oE + k * 6 + 3, none⟩ = some (.int .u64 h.e.birth) ∧ wz.cell? ⟨bE, oE + k * 6 + 4, none⟩ = some (.int .u64 h.e.due) ∧ wz.cell? ⟨bE, oE + k * 6 + 5, none⟩ = some (.int .u64 h.e.at_)) wz) → Below wz.heap.size wz wz2 → ((fun wz : World => wz.cell? ⟨w.heap.size, 0, none⟩ = some (.string p) ∧ wz.cell? ⟨w.heap.size, 1, none⟩ = some (.slice kA kinds.length kc) ∧ wz.cell? ⟨w.heap.size, 2, none⟩ = some (.int .i64 room) ∧ wz.cell? ⟨w.heap.size, 3, none⟩ = some (.bool oldest) ∧ wz.cell? ⟨wo.heap.size, 7, none⟩ = some (.slice (some ⟨bE, oE, none⟩) es.length ec) ∧ wz.cell? ⟨bE, oE + k * 6, none⟩ = some (.int .i64 h.e.kind) ∧ wz.cell? ⟨bE, oE + k * 6 + 1, none⟩ = some (.string h.e.key) ∧ wz.cell? ⟨bE, oE + k * 6 + 2, none⟩ = some (.slice h.A h.e.val.length h.c) ∧ wz.cell? ⟨bE, oE + k * 6 + 3, none⟩ = some (.int .u64 h.e.birth) ∧ wz.cell? ⟨bE, oE + k * 6 + 4, none⟩ = some (.int .u64 h.e.due) ∧ wz.cell? ⟨bE, oE + k * 6 + 5, none⟩ = some (.int .u64 h.e.at_)) wz2)) := Lib.hid fun wz wz2 hq hb2 => by
                            obtain ⟨v0, v1, v2, v3, v4, v5, v6, v7, v8, v9, v10⟩ := hq
                            exact ⟨cell_later hb2 v0, cell_later hb2 v1, cell_later hb2 v2, cell_later hb2 v3, cell_later hb2 v4, cell_later hb2 v5, cell_later hb2 v6, cell_later hb2 v7, cell_later hb2 v8, cell_later hb2 v9, cell_later hb2 v10⟩
                          have HLF := Lib.hid (lawFits_any ⟨p, kinds, room, oldest, kA, kc⟩ h wr.drew (HRI.out.at_ HBI.out.drew) (by show kinds.length ≤ 1000000; have := HK10.out; omega))
                          have HRES : Hid (fitting ⟨p, kinds, room, oldest, kA, kc⟩ (evs (es.take (k + 1))) = fitting ⟨p, kinds, room, oldest, kA, kc⟩ (evs (es.take k)) ++ (if Ri.fits ⟨p, kinds, room, oldest, kA, kc⟩ h.e = true then [h.e] else [])) := Lib.hid (by rw [evs_snoc hkl, fitting_snoc, ← hh])
                          clear kd hh y0 y1 y2 y3 y4 y5
                          generalize Ri.fits ⟨p, kinds, room, oldest, kA, kc⟩ h.e = res at *
                          simp only [Ri.v, Hv.v] at HLF
                          go_wp2
                          refine wp_region_noPanic ?_
                          refine wp_region_held_drew (S := fun wz => wz.cell? ⟨w.heap.size, 0, none⟩ = some (.string p) ∧ wz.cell? ⟨w.heap.size, 1, none⟩ = some (.slice kA kinds.length kc) ∧ wz.cell? ⟨w.heap.size, 2, none⟩ = some (.int .i64 room) ∧ wz.cell? ⟨w.heap.size, 3, none⟩ = some (.bool oldest) ∧ wz.cell? ⟨wo.heap.size, 7, none⟩ = some (.slice (some ⟨bE, oE, none⟩) es.length ec) ∧ wz.cell? ⟨bE, oE + k * 6, none⟩ = some (.int .i64 h.e.kind) ∧ wz.cell? ⟨bE, oE + k * 6 + 1, none⟩ = some (.string h.e.key) ∧ wz.cell? ⟨bE, oE + k * 6 + 2, none⟩ = some (.slice h.A h.e.val.length h.c) ∧ wz.cell? ⟨bE, oE + k * 6 + 3, none⟩ = some (.int .u64 h.e.birth) ∧ wz.cell? ⟨bE, oE + k * 6 + 4, none⟩ = some (.int .u64 h.e.due) ∧ wz.cell? ⟨bE, oE + k * 6 + 5, none⟩ = some (.int .u64 h.e.at_)) (by kernel_rfl) HS.out (fun hHeld => ?_)
                          refine wpAnyH_take (i := 0) (oi := { dst := some 123, op := Op.load 24 (Operand.tmp 3), type := 24, pos := "law.go:356", after := #[], guard := none }) (v := ?_) rfl (by kernel_rfl) (by kernel_rfl) (by kernel_rfl) (fun _ _ _ h => h) (Or.inl ⟨by rfl, ?_⟩) hHeld ?_
                          rotate_left 1
                          · intro wz hSw
                            try dsimp only at hSw
                            go_simp
                            try with_reducible rfl
                          try simp only [Act.put, List.setIfInBounds_toArray, List.set_cons_zero, List.set_cons_succ]
                          refine wpAnyH_take (i := 1) (oi := { dst := some 124, op := Op.fieldAddr 50 (Operand.tmp 13) 4, type := 0, pos := "law.go:356", after := #[], guard := none }) (v := ?_) rfl (by kernel_rfl) (by kernel_rfl) (by kernel_rfl) (fun _ _ _ h => h) (Or.inl ⟨by rfl, ?_⟩) hHeld ?_
                          rotate_left 1
                          · intro wz hSw
                            try dsimp only at hSw
                            go_simp
                            try with_reducible rfl
                          try simp only [Act.put, List.setIfInBounds_toArray, List.set_cons_zero, List.set_cons_succ]
                          refine wpAnyH_take (i := 2) (oi := { dst := some 125, op := Op.load 38 (Operand.tmp 124), type := 38, pos := "law.go:356", after := #[{ on := 1, ground := Ground.data }], guard := none }) (v := ?_) rfl (by kernel_rfl) (by kernel_rfl) (by kernel_rfl) (fun _ _ _ h => h) (Or.inl ⟨by rfl, ?_⟩) hHeld ?_
                          rotate_left 1
                          · intro wz hSw
                            try dsimp only at hSw
                            go_simp
                            try with_reducible rfl
                          try simp only [Act.put, List.setIfInBounds_toArray, List.set_cons_zero, List.set_cons_succ]
                          refine wpAnyH_take (i := 3) (oi := { dst := some 126, op := Op.move (Operand.tmp 18), type := 3, pos := "law.go:356", after := #[], guard := none }) (v := ?_) rfl (by kernel_rfl) (by kernel_rfl) (by kernel_rfl) (fun _ _ _ h => h) (Or.inl ⟨by rfl, ?_⟩) hHeld ?_
                          rotate_left 1
                          · intro wz hSw
                            try dsimp only at hSw
                            go_simp
                            try with_reducible rfl
                          try simp only [Act.put, List.setIfInBounds_toArray, List.set_cons_zero, List.set_cons_succ]
                          refine wpAnyH_take (i := 4) (oi := { dst := some 127, op := Op.indexAddr 38 (Operand.tmp 125) (Operand.tmp 126), type := 0, pos := "law.go:356", after := #[{ on := 2, ground := Ground.data }, { on := 3, ground := Ground.data }], guard := none }) (v := ?_) rfl (by kernel_rfl) (by kernel_rfl) (by kernel_rfl) (fun _ _ _ h => h) (Or.inl ⟨by rfl, ?_⟩) hHeld ?_
                          rotate_left 1
                          · intro wz hSw
                            try dsimp only at hSw
                            go_simp
                            try with_reducible rfl
                          try simp only [Act.put, List.setIfInBounds_toArray, List.set_cons_zero, List.set_cons_succ]
                          refine wpAnyH_take (i := 5) (oi := { dst := some 128, op := Op.load 30 (Operand.tmp 127), type := 30, pos := "law.go:356", after := #[{ on := 4, ground := Ground.data }], guard := none }) (v := ?_) rfl (by kernel_rfl) (by kernel_rfl) (by kernel_rfl) (fun _ _ _ h => h) (Or.inl ⟨by rfl, ?_⟩) hHeld ?_
                          rotate_left 1
                          · intro wz hSw
                            try dsimp only at hSw
                            go_simp
                            try with_reducible rfl
                          try simp only [Act.put, List.setIfInBounds_toArray, List.set_cons_zero, List.set_cons_succ]
                          refine wpAnyH_ready (rs := [6]) (by kernel_rfl) (by simp) ?_
                          refine AllReadyH.cons (o := { dst := some 129, op := Op.call { callee := Callee.value (Operand.func 10), args := #[Operand.tmp 123, Operand.tmp 128], argTypes := #[24, 30] }, type := 4, pos := "law.go:356", after := #[{ on := 0, ground := Ground.data }, { on := 5, ground := Ground.data }], guard := none }) rfl (fun K hK => ?_) AllReadyH.nil
                          go_simp
                          refine (HLF.out).mono ?_
                          rintro e w8 ⟨rfl, hb8⟩
                          have HB8 := Lib.hid hb8
                          clear hb8
                          refine hK.out _ _ (HKP.out _ _ hHeld HB8.out) (fun hHeld => ?_)
                          clear hK K
                          try simp only [Act.put, List.setIfInBounds_toArray, List.set_cons_zero, List.set_cons_succ]
                          refine wpAnyH_done (by kernel_rfl) ?_ _
                          refine NoPanic.normal ?_
                          have hb8' : Below wr.heap.size wr w8 := (Below.refl _ wr).drew.trans HB8.out
                          have HT8' := Lib.hid (HTI.out.on hb8')
                          have HA8' := Lib.hid (HAI2.out.on hb8')
                          have HKI8 := Lib.hid (HKI.out.below hb8' HKI.out.lt)
                          obtain ⟨-, -, -, -, x7, y0, y1, y2, y3, y4, y5⟩ := HKP.out _ _ HS.out HB8.out
                          have hlen' : Hid (hs'.length ≤ 700) := Lib.hid (by
                            have h1 : (evs hs').length = (evs hs).length + (fitting ⟨p, kinds, room, oldest, kA, kc⟩ (evs (es.take k))).length := by rw [HEV.out, List.length_append]
                            have h2 : (fitting ⟨p, kinds, room, oldest, kA, kc⟩ (evs (es.take k))).length ≤ (evs (es.take k)).length := List.length_filter_le _ _
                            rw [evs_len] at h1 h2
                            have h3 := List.length_take_le k es
                            have := hbnd.out.1
                            have := hl20.out
                            omega)
                          clear hb8' hHeld
                          cases res with
                          | false =>
                            clear x7 y0 y1 y2 y3 y4 y5
                            go_wp2
                            go_roundw
                            case rel =>
                              refine ⟨k + 1, A', c', hs', by omega, by go_num, rfl, ?_, HT8'.out, HA8'.out, HKI8.out⟩
                              rw [HRES.out, HEV.out]
                              simp
                            case measure => simp [intOf]; omega
                          | true =>
                            have hz8 := HT8'.out.below.size
                            have hl700 := hlen'.out
                            go_wp2_with (first
                              | (at_builtin; (refine wpList_app1_h w8 rfl (.tmp 130) (.tmp 136) 38 rfl w2.heap.size 30 6 72 _ info30 Try.underlying38 rfl (by omega) _ hs'.length _ h.cells rfl HA8'.out.own rfl (cells_one h) rfl (by unfold maxLen; omega) (by omega) hz8 ?_); intro v' w10 hown10 hg10 hat10))
                            obtain ⟨A10, c10, rfl, _⟩ := own_shape hown10
                            have hlh : (hs' ++ [h]).length = hs'.length + 1 := by simp
                            have hC10 := Chg.of_row hg10
                            have hfree : ∀ q ∈ (Value.slice A' hs'.length c').ownBlock.toList, q ∉ hubO w2.heap.size m1 (s1' :: b1') ∧ q ∉ hubO (w2.heap.size + 1) m2 [s2'] ∧ NoRow w8 q ∧ w2.heap.size ≤ q := fun q hq => by
                              rw [Option.mem_toList] at hq
                              have h1 := HA8'.out.far q hq
                              obtain ⟨cs, hcs⟩ := own_row HA8'.out.own hq
                              exact ⟨h1.1, h1.2, NoRow.blk (show Blk w8 q 30 cs from hcs) (by decide) (by decide), (HA8'.out.own.lt q hq).1⟩
                            have HT10 := Lib.hid (HT8'.out.free hC10 hfree)
                            have HKI10 := Lib.hid (hC10.blk HKI8.out (fun e => by
                              rw [Option.mem_toList] at e
                              exact own_blk_ne HA8'.out.own HKI8.out (by decide) e))
                            have HA10 : Hid (AllAt w2 w10 (hubO w2.heap.size m1 (s1' :: b1')) (hubO (w2.heap.size + 1) m2 [s2']) (.slice A10 (hs' ++ [h]).length c10) (hs' ++ [h])) := Lib.hid {
                              own := by
                                rw [hlh, ecells_app, show ecells [h] = h.cells by simp [ecells]]
                                exact hown10
                              far := fun q hq => by
                                rw [hlh] at hq
                                rcases hat10 with e | e
                                · rw [e] at hq
                                  exact HA8'.out.far q hq
                                · rw [e] at hq
                                  injection hq with hq
                                  refine ⟨fun e2 => ?_, fun e2 => ?_⟩
                                  · have := HT8'.out.h1.lt q e2; omega
                                  · have := HT8'.out.h2.lt q e2; omega
                              each := fun x hx => by
                                rcases List.mem_append.1 hx with hx | hx
                                · exact HA8'.out.each x hx
                                · simp only [List.mem_singleton] at hx
                                  subst hx
                                  rw [HHH.out]
                                  exact ((HAI.out.each _ (hnth_mem hkl)).ok.below HB2.out).more HB2.out.size }
                            clear hown10 hg10 hat10 hC10 hfree x7 y0 y1 y2 y3 y4 y5
                            go_roundw
                            case rel =>
                              refine ⟨k + 1, A10, c10, hs' ++ [h], by omega, by go_num, by rw [hlh], ?_, HT10.out, HA10.out, HKI10.out⟩
                              rw [HRES.out, show evs (hs' ++ [h]) = evs hs' ++ [h.e] by simp [evs], HEV.out]
                              simp
                            case measure => simp [intOf]; omega
                        · have hd : decide ((k : Int) < (es.length : Int)) = false := by simp; omega
                          have hke : Hid (evs hs' = evs hs ++ fitting ⟨p, kinds, room, oldest, kA, kc⟩ (evs es)) := Lib.hid (by rw [HEV.out, List.take_of_length_le (by omega)])
                          have hrm : Hid (1 ≤ s1.t.rl.room) := Lib.hid (HT6.out.h1.wts s1 (by simp)).1.room1
                          have hcn := HC.out.pub HA1.out HAB.out HA2.out (by rw [evs_len]; exact hl20.out) hrm.out
                          rw [← hke.out] at hcn
                          have HCN := Lib.hid hcn
                          clear hcn x2
                          go_wp2
                          go_roundw
                          case rel => exact ⟨i + 1, tk, fr, m1, n1, s1', b1', m2, n2, s2', A', c', hs', by omega, by go_num, rfl, rfl, rfl, HTI.out, HAI2.out, HCN.out⟩
                          case measure => simp [intOf]; omega
                  · by_cases hw2 : what = 2 ∧ 0 ≤ am
                    · obtain ⟨hw2, hm0⟩ := hw2
                      subst hw2
                      obtain ⟨mx, rfl⟩ : ∃ mx : Nat, am = (mx : Int) := ⟨am.toNat, by omega⟩
                      obtain ⟨k, hkd⟩ : ∃ k, k = min mx s1.t.wait.length := ⟨_, rfl⟩
                      have hsl : s2.t.wait.length = s1.t.wait.length := by
                        have h1 := congrArg List.length HC.out.same
                        rw [evs_len, evs_len] at h1
                        exact h1.symm
                      have hT1 := took_any _ w2.heap.size w2.heap.size n1 m1 [] b1 s1 mx HT6.out.h1 HT6.out.below.size
                      rw [← hkd, HC.out.id1] at hT1
                      have HTK1 := Lib.hid hT1
                      have HKD := Lib.hid hkd
                      have HSL := Lib.hid hsl
                      clear hT1 hkd hsl hw1 hm0
                      go_wp2_with fail
                      refine HTK1.out.mono ?_
                      rintro e w8 ⟨AX8, cX8, t1, rfl, hto, hrl1, hwt1, hlo1, how1⟩
                      have HT8 := Lib.hid (HT6.out.step1 hto)
                      have HA8 := Lib.hid (HA6.out.step1 hto.chg hto.own)
                      have HKX8 := Lib.hid (hto.chg.blk HKX.out (fun e => by have := HO1.out _ e; omega))
                      have HEX8 := Lib.hid (fun x hx => EvOwn.hub HT6.out.h1 hto.chg ((HT6.out.h1.wts s1 (by simp)).1.own x hx))
                      have HRL1 := Lib.hid hrl1
                      have HWT1 := Lib.hid hwt1
                      have HLO1 := Lib.hid hlo1
                      have HOW1 := Lib.hid how1
                      have hT2 := took_any w8 w2.heap.size (w2.heap.size + 1) n2 m2 [] [] s2 mx HT8.out.h2 HT8.out.below.size
                      rw [HSL.out, ← HKD.out, HC.out.id2] at hT2
                      have HTK2 := Lib.hid hT2
                      have kX8 := HKX8.out
                      clear hT2 hto hrl1 hwt1 hlo1 how1 x0 x2 x7 HTK1 q0 q1 q2 q3 q4 q5 q6 q7
                      have x2 := kX8.cell 2
                      simp only [List.getElem?_toArray, List.getElem?_cons_zero, List.getElem?_cons_succ] at x2
                      clear kX8
                      go_wp2_with fail
                      refine HTK2.out.mono ?_
                      rintro e w9 ⟨AY9, cY9, t2, rfl, hto, hrl2, hwt2, hlo2, how2⟩
                      have HT9 := Lib.hid (HT8.out.step2 hto)
                      have HA9 := Lib.hid (HA8.out.step2 hto.chg hto.own)
                      have HRL2 := Lib.hid hrl2
                      have HWT2 := Lib.hid hwt2
                      have HLO2 := Lib.hid hlo2
                      have hO8 : ∀ q ∈ hubO (w2.heap.size + 1) m2 [s2], q < wo.heap.size := HO2.out
                      have how1' : w9.ownsRow wo.heap.size 30 6 (.slice AX8 k cX8) k (ecells (s1.t.wait.take k)) := own_base (own_same HOW1.out (fun g hg => hto.chg.block g (HOW1.out.lt g hg).2 (fun e => by have := hO8 g e; have := (HOW1.out.lt g hg).1; have := HZ6.out; omega))) (Nat.le_of_lt HZ6.out)
                      have HEX := Lib.hid (show EvsAt w9 w9.heap.size AX8 k (s1.t.wait.take k) from ⟨Reads.of_own how1', fun x hx => (EvOwn.noRow hto.chg HT8.out.h2.noRow (HEX8.out x (List.mem_of_mem_take hx))).ok⟩)
                      have HEY := Lib.hid (show EvsAt w9 w9.heap.size AY9 k (s2.t.wait.take k) from ⟨Reads.of_own how2, fun x hx => (EvOwn.hub HT8.out.h2 hto.chg ((HT8.out.h2.wts s2 (by simp)).1.own x (List.mem_of_mem_take hx))).ok⟩)
                      have HEA := Lib.hid (HA9.out.evsAt HT9.out.below)
                      have hkw : Hid (k ≤ s1.t.wait.length) := Lib.hid (by rw [HKD.out]; exact Nat.min_le_right _ _)
                      have hk600 : (k : Int) ≤ 600 := by
                        have h1 := HC.out.sum
                        have := hbnd.out.1
                        have := hkw.out
                        omega
                      have htk600 : (tk : Int) ≤ 600 := by
                        have h1 := HC.out.sum
                        have := hbnd.out.1
                        omega
                      have hhs600 : (hs.length : Int) ≤ 600 := by
                        have := hbnd.out.1
                        have := hbnd.out.2
                        omega
                      have hle0 := HC.out.le
                      have HSU := Lib.hid HC.out.sub
                      clear hto hrl2 hwt2 hlo2 how2 hO8 how1' x2 HTK2
                      go_wp2
                      go_loopw [23, 11] (fun x23 x11 wi => ∃ q f : Nat, q ≤ k ∧ x23 = .int .i64 q ∧ x11 = .int .i64 f ∧ f ≤ hs.length ∧ ((evs s1.t.wait).drop q).Sublist ((evs hs).drop f) ∧ Below w9.heap.size w9 wi) (fun x23 _ _ => k - (intOf x23).toNat)
                      case atStart => exact ⟨0, fr, Nat.zero_le _, rfl, rfl, by rw [← hbnd.out.2]; exact hle0, HSU.out, Below.refl _ _⟩
                      case round =>
                        obtain ⟨q, f, hq, rfl, rfl, hf, hsub, hbi⟩ := hrel
                        obtain ⟨wi, hwi⟩ : ∃ x, x = wr := ⟨wr, rfl⟩
                        subst hwi
                        have HBI := Lib.hid hbi
                        have HSUB := Lib.hid hsub
                        clear hbi hsub hle0
                        by_cases hqk : q < k
                        · have hq0 : (0 : Int) ≤ (q : Int) := Int.natCast_nonneg _
                          have hq1 : (q : Int) < (k : Int) := by omega
                          have hqw : Hid (q < s1.t.wait.length) := Lib.hid (by have := hkw.out; omega)
                          obtain ⟨x, hx⟩ : ∃ x, x = hnth s1.t.wait q := ⟨_, rfl⟩
                          obtain ⟨z, hz⟩ : ∃ z, z = hnth s2.t.wait q := ⟨_, rfl⟩
                          have HX := Lib.hid hx
                          have HZ := Lib.hid hz
                          have HXZ : Hid (eqE x.e z.e = true) := Lib.hid (by rw [hx, hz, evs_nth HC.out.same hqw.out]; exact eqE_self _)
                          have HSQ : Hid ((x.e :: (evs s1.t.wait).drop (q + 1)).Sublist ((evs hs).drop f)) := Lib.hid (by rw [hx, ← evs_drop hqw.out]; exact HSUB.out)
                          obtain ⟨bQ, oQ, rfl, hbQ, u0, u1, u2, u3, u4, u5⟩ := HEX.out.at_ hqk
                          obtain ⟨bY, oY, rfl, hbY, v0, v1, v2, v3, v4, v5⟩ := HEY.out.at_ hqk
                          rw [hnth_take hqk, ← hx] at u0 u1 u2 u3 u4 u5
                          rw [hnth_take hqk, ← hz] at v0 v1 v2 v3 v4 v5
                          have hfl0 := sub_lt HSQ.out
                          obtain ⟨bH, oH, rfl, hbH, _⟩ := HEA.out.at_ hfl0
                          have HOX := Lib.hid (HEX.out.ok x (by rw [hx, ← hnth_take hqk]; exact hnth_mem (by rw [HEX.out.len]; exact hqk)))
                          have HOZ := Lib.hid (HEY.out.ok z (by rw [hz, ← hnth_take hqk]; exact hnth_mem (by rw [HEY.out.len]; exact hqk)))
                          have HU : Hid (w9.cell? ⟨bQ, oQ + q * 6, none⟩ = some (.int .i64 x.e.kind) ∧ w9.cell? ⟨bQ, oQ + q * 6 + 1, none⟩ = some (.string x.e.key) ∧ w9.cell? ⟨bQ, oQ + q * 6 + 2, none⟩ = some (.slice x.A x.e.val.length x.c) ∧ w9.cell? ⟨bQ, oQ + q * 6 + 3, none⟩ = some (.int .u64 x.e.birth) ∧ w9.cell? ⟨bQ, oQ + q * 6 + 4, none⟩ = some (.int .u64 x.e.due) ∧ w9.cell? ⟨bQ, oQ + q * 6 + 5, none⟩ = some (.int .u64 x.e.at_) ∧ w9.cell? ⟨bY, oY + q * 6, none⟩ = some (.int .i64 z.e.kind) ∧ w9.cell? ⟨bY, oY + q * 6 + 1, none⟩ = some (.string z.e.key) ∧ w9.cell? ⟨bY, oY + q * 6 + 2, none⟩ = some (.slice z.A z.e.val.length z.c) ∧ w9.cell? ⟨bY, oY + q * 6 + 3, none⟩ = some (.int .u64 z.e.birth) ∧ w9.cell? ⟨bY, oY + q * 6 + 4, none⟩ = some (.int .u64 z.e.due) ∧ w9.cell? ⟨bY, oY + q * 6 + 5, none⟩ = some (.int .u64 z.e.at_)) := Lib.hid ⟨u0, u1, u2, u3, u4, u5, v0, v1, v2, v3, v4, v5⟩
                          clear hx hz u0 u1 u2 u3 u4 u5 v0 v1 v2 v3 v4 v5 hfl0 HSUB
                          go_wp2
                          go_loopw [11] (fun x11 wj => ∃ f : Nat, x11 = .int .i64 f ∧ (x.e :: (evs s1.t.wait).drop (q + 1)).Sublist ((evs hs).drop f) ∧ Below w9.heap.size w9 wj) (fun x11 _ => hs.length - (intOf x11).toNat)
                          case atStart => exact ⟨f, rfl, HSQ.out, HBI.out⟩
                          case round =>
                            obtain ⟨f, rfl, hsub, hbj⟩ := hrel
                            have hfl := sub_lt hsub
                            have hf0 : (0 : Int) ≤ (f : Int) := Int.natCast_nonneg _
                            have hf1 : (f : Int) < (hs.length : Int) := by omega
                            obtain ⟨y, hy⟩ : ∃ y, y = hnth hs f := ⟨_, rfl⟩
                            have hsub' : (x.e :: (evs s1.t.wait).drop (q + 1)).Sublist (y.e :: (evs hs).drop (f + 1)) := by rw [hy, ← evs_drop hfl]; exact hsub
                            have HSB := Lib.hid hsub'
                            have HBJ := Lib.hid hbj
                            obtain ⟨bH', oH', he, hbH', y0, y1, y2, y3, y4, y5⟩ := HEA.out.at_ hfl
                            injection he with he
                            injection he with e1 e2
                            subst e1 e2
                            rw [← hy] at y0 y1 y2 y3 y4 y5
                            have HOY := HEA.out.ok y (by rw [hy]; exact hnth_mem hfl)
                            have hcell : ∀ b o : Nat, b < w9.heap.size → wr.cell? ⟨b, o, none⟩ = w9.cell? ⟨b, o, none⟩ := fun b o hb => hbj.cell hb
                            obtain ⟨u0, u1, u2, u3, u4, u5, v0, v1, v2, v3, v4, v5⟩ := HU.out
                            have HS := Lib.hid (show wr.drew.cell? ⟨bH, oH + f * 6, none⟩ = some (.int .i64 y.e.kind) ∧ wr.drew.cell? ⟨bH, oH + f * 6 + 1, none⟩ = some (.string y.e.key) ∧ wr.drew.cell? ⟨bH, oH + f * 6 + 2, none⟩ = some (.slice y.A y.e.val.length y.c) ∧ wr.drew.cell? ⟨bH, oH + f * 6 + 3, none⟩ = some (.int .u64 y.e.birth) ∧ wr.drew.cell? ⟨bH, oH + f * 6 + 4, none⟩ = some (.int .u64 y.e.due) ∧ wr.drew.cell? ⟨bH, oH + f * 6 + 5, none⟩ = some (.int .u64 y.e.at_) ∧ wr.drew.cell? ⟨bQ, oQ + q * 6, none⟩ = some (.int .i64 x.e.kind) ∧ wr.drew.cell? ⟨bQ, oQ + q * 6 + 1, none⟩ = some (.string x.e.key) ∧ wr.drew.cell? ⟨bQ, oQ + q * 6 + 2, none⟩ = some (.slice x.A x.e.val.length x.c) ∧ wr.drew.cell? ⟨bQ, oQ + q * 6 + 3, none⟩ = some (.int .u64 x.e.birth) ∧ wr.drew.cell? ⟨bQ, oQ + q * 6 + 4, none⟩ = some (.int .u64 x.e.due) ∧ wr.drew.cell? ⟨bQ, oQ + q * 6 + 5, none⟩ = some (.int .u64 x.e.at_) from ⟨(hcell _ _ hbH).trans y0, (hcell _ _ hbH).trans y1, (hcell _ _ hbH).trans y2, (hcell _ _ hbH).trans y3, (hcell _ _ hbH).trans y4, (hcell _ _ hbH).trans y5, (hcell _ _ hbQ).trans u0, (hcell _ _ hbQ).trans u1, (hcell _ _ hbQ).trans u2, (hcell _ _ hbQ).trans u3, (hcell _ _ hbQ).trans u4, (hcell _ _ hbQ).trans u5⟩)
                            have HKP : Hid (∀ wz wz2 : World, ((fun wz : World => wz.cell? ⟨bH, oH + f * 6, none⟩ = some (.int .i64 y.e.kind) ∧ wz.cell? ⟨bH, oH + f * 6 + 1, none⟩ = some (.string y.e.key) ∧ wz.cell? ⟨bH, oH + f * 6 + 2, none⟩ = some (.slice y.A y.e.val.length y.c) ∧ wz.cell? ⟨bH, oH + f * 6 + 3, none⟩ = some (.int .u64 y.e.birth) ∧ wz.cell? ⟨bH, oH + f * 6 + 4, none⟩ = some (.int .u64 y.e.due) ∧ wz.cell? ⟨bH, oH + f * 6 + 5, none⟩ = some (.int .u64 y.e.at_) ∧ wz.cell? ⟨bQ, oQ + q * 6, none⟩ = some (.int .i64 x.e.kind) ∧ wz.cell? ⟨bQ, oQ + q * 6 + 1, none⟩ = some (.string x.e.key) ∧ wz.cell? ⟨bQ, oQ + q * 6 + 2, none⟩ = some (.slice x.A x.e.val.length x.c) ∧ wz.cell? ⟨bQ, oQ + q * 6 + 3, none⟩ = some (.int .u64 x.e.birth) ∧ wz.cell? ⟨bQ, oQ + q * 6 + 4, none⟩ = some (.int .u64 x.e.due) ∧ wz.cell? ⟨bQ, oQ + q * 6 + 5, none⟩ = some (.int .u64 x.e.at_)) wz) → Below wz.heap.size wz wz2 → ((fun wz : World => wz.cell? ⟨bH, oH + f * 6, none⟩ = some (.int .i64 y.e.kind) ∧ wz.cell? ⟨bH, oH + f * 6 + 1, none⟩ = some (.string y.e.key) ∧ wz.cell? ⟨bH, oH + f * 6 + 2, none⟩ = some (.slice y.A y.e.val.length y.c) ∧ wz.cell? ⟨bH, oH + f * 6 + 3, none⟩ = some (.int .u64 y.e.birth) ∧ wz.cell? ⟨bH, oH + f * 6 + 4, none⟩ = some (.int .u64 y.e.due) ∧ wz.cell? ⟨bH, oH + f * 6 + 5, none⟩ = some (.int .u64 y.e.at_) ∧ wz.cell? ⟨bQ, oQ + q * 6, none⟩ = some (.int .i64 x.e.kind) ∧ wz.cell? ⟨bQ, oQ + q * 6 + 1, none⟩ = some (.string x.e.key) ∧ wz.cell? ⟨bQ, oQ + q * 6 + 2, none⟩ = some (.slice x.A x.e.val.length x.c) ∧ wz.cell? ⟨bQ, oQ + q * 6 + 3, none⟩ = some (.int .u64 x.e.birth) ∧ wz.cell? ⟨bQ, oQ + q * 6 + 4, none⟩ = some (.int .u64 x.e.due) ∧ wz.cell? ⟨bQ, oQ + q * 6 + 5, none⟩ = some (.int .u64 x.e.at_)) wz2)) := Lib.hid fun wz wz2 hq hb2 => by
                              obtain ⟨v0, v1, v2, v3, v4, v5, v6, v7, v8, v9, v10, v11⟩ := hq
                              exact ⟨cell_later hb2 v0, cell_later hb2 v1, cell_later hb2 v2, cell_later hb2 v3, cell_later hb2 v4, cell_later hb2 v5, cell_later hb2 v6, cell_later hb2 v7, cell_later hb2 v8, cell_later hb2 v9, cell_later hb2 v10, cell_later hb2 v11⟩
                            have HKP3 : Hid (∀ wz wz2 : World, ((fun wz : World => wz.cell? ⟨bQ, oQ + q * 6, none⟩ = some (.int .i64 x.e.kind) ∧ wz.cell? ⟨bQ, oQ + q * 6 + 1, none⟩ = some (.string x.e.key) ∧ wz.cell? ⟨bQ, oQ + q * 6 + 2, none⟩ = some (.slice x.A x.e.val.length x.c) ∧ wz.cell? ⟨bQ, oQ + q * 6 + 3, none⟩ = some (.int .u64 x.e.birth) ∧ wz.cell? ⟨bQ, oQ + q * 6 + 4, none⟩ = some (.int .u64 x.e.due) ∧ wz.cell? ⟨bQ, oQ + q * 6 + 5, none⟩ = some (.int .u64 x.e.at_) ∧ wz.cell? ⟨bY, oY + q * 6, none⟩ = some (.int .i64 z.e.kind) ∧ wz.cell? ⟨bY, oY + q * 6 + 1, none⟩ = some (.string z.e.key) ∧ wz.cell? ⟨bY, oY + q * 6 + 2, none⟩ = some (.slice z.A z.e.val.length z.c) ∧ wz.cell? ⟨bY, oY + q * 6 + 3, none⟩ = some (.int .u64 z.e.birth) ∧ wz.cell? ⟨bY, oY + q * 6 + 4, none⟩ = some (.int .u64 z.e.due) ∧ wz.cell? ⟨bY, oY + q * 6 + 5, none⟩ = some (.int .u64 z.e.at_)) wz) → Below wz.heap.size wz wz2 → ((fun wz : World => wz.cell? ⟨bQ, oQ + q * 6, none⟩ = some (.int .i64 x.e.kind) ∧ wz.cell? ⟨bQ, oQ + q * 6 + 1, none⟩ = some (.string x.e.key) ∧ wz.cell? ⟨bQ, oQ + q * 6 + 2, none⟩ = some (.slice x.A x.e.val.length x.c) ∧ wz.cell? ⟨bQ, oQ + q * 6 + 3, none⟩ = some (.int .u64 x.e.birth) ∧ wz.cell? ⟨bQ, oQ + q * 6 + 4, none⟩ = some (.int .u64 x.e.due) ∧ wz.cell? ⟨bQ, oQ + q * 6 + 5, none⟩ = some (.int .u64 x.e.at_) ∧ wz.cell? ⟨bY, oY + q * 6, none⟩ = some (.int .i64 z.e.kind) ∧ wz.cell? ⟨bY, oY + q * 6 + 1, none⟩ = some (.string z.e.key) ∧ wz.cell? ⟨bY, oY + q * 6 + 2, none⟩ = some (.slice z.A z.e.val.length z.c) ∧ wz.cell? ⟨bY, oY + q * 6 + 3, none⟩ = some (.int .u64 z.e.birth) ∧ wz.cell? ⟨bY, oY + q * 6 + 4, none⟩ = some (.int .u64 z.e.due) ∧ wz.cell? ⟨bY, oY + q * 6 + 5, none⟩ = some (.int .u64 z.e.at_)) wz2)) := Lib.hid fun wz wz2 hq hb2 => by
                              obtain ⟨v0, v1, v2, v3, v4, v5, v6, v7, v8, v9, v10, v11⟩ := hq
                              exact ⟨cell_later hb2 v0, cell_later hb2 v1, cell_later hb2 v2, cell_later hb2 v3, cell_later hb2 v4, cell_later hb2 v5, cell_later hb2 v6, cell_later hb2 v7, cell_later hb2 v8, cell_later hb2 v9, cell_later hb2 v10, cell_later hb2 v11⟩
                            have HEQ := Lib.hid (equal_any y x wr.drew ((HOY.below hbj).more hbj.size).drew' ((HOX.out.below hbj).more hbj.size).drew')
                            have HCELL := Lib.hid hcell
                            simp only [Hv.v] at HEQ
                            clear hsub hsub' hbj y0 y1 y2 y3 y4 y5 u0 u1 u2 u3 u4 u5 v0 v1 v2 v3 v4 v5 hcell HOY hy
                            cases hee : eqE y.e x.e with
                            | false =>
                              have HEE := Lib.hid hee
                              clear hee
                              go_wp2
                              refine wp_region_noPanic ?_
                              refine wp_region_held_drew (S := fun wz => wz.cell? ⟨bH, oH + f * 6, none⟩ = some (.int .i64 y.e.kind) ∧ wz.cell? ⟨bH, oH + f * 6 + 1, none⟩ = some (.string y.e.key) ∧ wz.cell? ⟨bH, oH + f * 6 + 2, none⟩ = some (.slice y.A y.e.val.length y.c) ∧ wz.cell? ⟨bH, oH + f * 6 + 3, none⟩ = some (.int .u64 y.e.birth) ∧ wz.cell? ⟨bH, oH + f * 6 + 4, none⟩ = some (.int .u64 y.e.due) ∧ wz.cell? ⟨bH, oH + f * 6 + 5, none⟩ = some (.int .u64 y.e.at_) ∧ wz.cell? ⟨bQ, oQ + q * 6, none⟩ = some (.int .i64 x.e.kind) ∧ wz.cell? ⟨bQ, oQ + q * 6 + 1, none⟩ = some (.string x.e.key) ∧ wz.cell? ⟨bQ, oQ + q * 6 + 2, none⟩ = some (.slice x.A x.e.val.length x.c) ∧ wz.cell? ⟨bQ, oQ + q * 6 + 3, none⟩ = some (.int .u64 x.e.birth) ∧ wz.cell? ⟨bQ, oQ + q * 6 + 4, none⟩ = some (.int .u64 x.e.due) ∧ wz.cell? ⟨bQ, oQ + q * 6 + 5, none⟩ = some (.int .u64 x.e.at_)) (by kernel_rfl) HS.out (fun hHeld => ?_)
                              refine wpAnyH_take (i := 0) (oi := { dst := some 179, op := Op.move (Operand.tmp 11), type := 3, pos := "law.go:368", after := #[], guard := none }) (v := ?_) rfl (by kernel_rfl) (by kernel_rfl) (by kernel_rfl) (fun _ _ _ h => h) (Or.inl ⟨by rfl, ?_⟩) hHeld ?_
                              rotate_left 1
                              · intro wz hSw
                                try dsimp only at hSw
                                go_simp
                                try with_reducible rfl
                              try simp only [Act.put, List.setIfInBounds_toArray, List.set_cons_zero, List.set_cons_succ]
                              refine wpAnyH_take (i := 1) (oi := { dst := some 180, op := Op.move (Operand.tmp 9), type := 38, pos := "law.go:368", after := #[], guard := none }) (v := ?_) rfl (by kernel_rfl) (by kernel_rfl) (by kernel_rfl) (fun _ _ _ h => h) (Or.inl ⟨by rfl, ?_⟩) hHeld ?_
                              rotate_left 1
                              · intro wz hSw
                                try dsimp only at hSw
                                go_simp
                                try with_reducible rfl
                              try simp only [Act.put, List.setIfInBounds_toArray, List.set_cons_zero, List.set_cons_succ]
                              refine wpAnyH_take (i := 2) (oi := { dst := some 181, op := Op.call { callee := Callee.builtin Builtin.len, args := #[Operand.tmp 180], argTypes := #[38] }, type := 3, pos := "law.go:368", after := #[{ on := 1, ground := Ground.data }], guard := none }) (v := ?_) rfl (by kernel_rfl) (by kernel_rfl) (by kernel_rfl) (fun _ _ _ h => h) (Or.inl ⟨by rfl, ?_⟩) hHeld ?_
                              rotate_left 1
                              · intro wz hSw
                                try dsimp only at hSw
                                go_simp
                                try with_reducible rfl
                              try simp only [Act.put, List.setIfInBounds_toArray, List.set_cons_zero, List.set_cons_succ]
                              refine wpAnyH_take (i := 3) (oi := { dst := some 182, op := Op.binOp BinOp.lss 3 (Operand.tmp 179) (Operand.tmp 181) 3, type := 4, pos := "law.go:368", after := #[{ on := 0, ground := Ground.data }, { on := 2, ground := Ground.data }], guard := none }) (v := ?_) rfl (by kernel_rfl) (by kernel_rfl) (by kernel_rfl) (fun _ _ _ h => h) (Or.inl ⟨by rfl, ?_⟩) hHeld ?_
                              rotate_left 1
                              · intro wz hSw
                                try dsimp only at hSw
                                go_simp
                                try with_reducible rfl
                              try simp only [Act.put, List.setIfInBounds_toArray, List.set_cons_zero, List.set_cons_succ]
                              refine wpAnyH_take (i := 4) (oi := { dst := some 183, op := Op.move (Operand.tmp 182), type := 4, pos := "law.go:368", after := #[{ on := 3, ground := Ground.data }], guard := none }) (v := ?_) rfl (by kernel_rfl) (by kernel_rfl) (by kernel_rfl) (fun _ _ _ h => h) (Or.inl ⟨by rfl, ?_⟩) hHeld ?_
                              rotate_left 1
                              · intro wz hSw
                                try dsimp only at hSw
                                go_simp
                                try with_reducible rfl
                              try simp only [Act.put, List.setIfInBounds_toArray, List.set_cons_zero, List.set_cons_succ]
                              refine wpAnyH_take (i := 5) (oi := { dst := some 184, op := Op.move (Operand.tmp 9), type := 38, pos := "law.go:368", after := #[{ on := 4, ground := Ground.guard }], guard := some (4, true) }) (v := ?_) rfl (by kernel_rfl) (by kernel_rfl) (by kernel_rfl) (fun _ _ _ h => h) (Or.inl ⟨by rfl, ?_⟩) hHeld ?_
                              rotate_left 1
                              · intro wz hSw
                                try dsimp only at hSw
                                go_simp
                                try with_reducible rfl
                              try simp only [Act.put, List.setIfInBounds_toArray, List.set_cons_zero, List.set_cons_succ]
                              refine wpAnyH_take (i := 6) (oi := { dst := some 185, op := Op.move (Operand.tmp 11), type := 3, pos := "law.go:368", after := #[{ on := 4, ground := Ground.guard }], guard := some (4, true) }) (v := ?_) rfl (by kernel_rfl) (by kernel_rfl) (by kernel_rfl) (fun _ _ _ h => h) (Or.inl ⟨by rfl, ?_⟩) hHeld ?_
                              rotate_left 1
                              · intro wz hSw
                                try dsimp only at hSw
                                go_simp
                                try with_reducible rfl
                              try simp only [Act.put, List.setIfInBounds_toArray, List.set_cons_zero, List.set_cons_succ]
                              refine wpAnyH_take (i := 7) (oi := { dst := some 186, op := Op.indexAddr 38 (Operand.tmp 184) (Operand.tmp 185), type := 0, pos := "law.go:368", after := #[{ on := 5, ground := Ground.data }, { on := 6, ground := Ground.data }, { on := 4, ground := Ground.guard }], guard := some (4, true) }) (v := ?_) rfl (by kernel_rfl) (by kernel_rfl) (by kernel_rfl) (fun _ _ _ h => h) (Or.inl ⟨by rfl, ?_⟩) hHeld ?_
                              rotate_left 1
                              · intro wz hSw
                                try dsimp only at hSw
                                go_simp
                                try with_reducible rfl
                              try simp only [Act.put, List.setIfInBounds_toArray, List.set_cons_zero, List.set_cons_succ]
                              refine wpAnyH_take (i := 8) (oi := { dst := some 187, op := Op.load 30 (Operand.tmp 186), type := 30, pos := "law.go:368", after := #[{ on := 7, ground := Ground.data }, { on := 4, ground := Ground.guard }], guard := some (4, true) }) (v := ?_) rfl (by kernel_rfl) (by kernel_rfl) (by kernel_rfl) (fun _ _ _ h => h) (Or.inl ⟨by rfl, ?_⟩) hHeld ?_
                              rotate_left 1
                              · intro wz hSw
                                try dsimp only at hSw
                                go_simp
                                try with_reducible rfl
                              try simp only [Act.put, List.setIfInBounds_toArray, List.set_cons_zero, List.set_cons_succ]
                              refine wpAnyH_take (i := 9) (oi := { dst := some 188, op := Op.move (Operand.tmp 19), type := 38, pos := "law.go:368", after := #[{ on := 4, ground := Ground.guard }], guard := some (4, true) }) (v := ?_) rfl (by kernel_rfl) (by kernel_rfl) (by kernel_rfl) (fun _ _ _ h => h) (Or.inl ⟨by rfl, ?_⟩) hHeld ?_
                              rotate_left 1
                              · intro wz hSw
                                try dsimp only at hSw
                                go_simp
                                try with_reducible rfl
                              try simp only [Act.put, List.setIfInBounds_toArray, List.set_cons_zero, List.set_cons_succ]
                              refine wpAnyH_take (i := 10) (oi := { dst := some 189, op := Op.move (Operand.tmp 23), type := 3, pos := "law.go:368", after := #[{ on := 4, ground := Ground.guard }], guard := some (4, true) }) (v := ?_) rfl (by kernel_rfl) (by kernel_rfl) (by kernel_rfl) (fun _ _ _ h => h) (Or.inl ⟨by rfl, ?_⟩) hHeld ?_
                              rotate_left 1
                              · intro wz hSw
                                try dsimp only at hSw
                                go_simp
                                try with_reducible rfl
                              try simp only [Act.put, List.setIfInBounds_toArray, List.set_cons_zero, List.set_cons_succ]
                              refine wpAnyH_take (i := 11) (oi := { dst := some 190, op := Op.indexAddr 38 (Operand.tmp 188) (Operand.tmp 189), type := 0, pos := "law.go:368", after := #[{ on := 9, ground := Ground.data }, { on := 10, ground := Ground.data }, { on := 4, ground := Ground.guard }], guard := some (4, true) }) (v := ?_) rfl (by kernel_rfl) (by kernel_rfl) (by kernel_rfl) (fun _ _ _ h => h) (Or.inl ⟨by rfl, ?_⟩) hHeld ?_
                              rotate_left 1
                              · intro wz hSw
                                try dsimp only at hSw
                                go_simp
                                try with_reducible rfl
                              try simp only [Act.put, List.setIfInBounds_toArray, List.set_cons_zero, List.set_cons_succ]
                              refine wpAnyH_take (i := 12) (oi := { dst := some 191, op := Op.load 30 (Operand.tmp 190), type := 30, pos := "law.go:368", after := #[{ on := 11, ground := Ground.data }, { on := 4, ground := Ground.guard }], guard := some (4, true) }) (v := ?_) rfl (by kernel_rfl) (by kernel_rfl) (by kernel_rfl) (fun _ _ _ h => h) (Or.inl ⟨by rfl, ?_⟩) hHeld ?_
                              rotate_left 1
                              · intro wz hSw
                                try dsimp only at hSw
                                go_simp
                                try with_reducible rfl
                              try simp only [Act.put, List.setIfInBounds_toArray, List.set_cons_zero, List.set_cons_succ]
                              refine wpAnyH_ready (rs := [13]) (by kernel_rfl) (by simp) ?_
                              refine AllReadyH.cons (o := { dst := some 192, op := Op.call { callee := Callee.value (Operand.func 20), args := #[Operand.tmp 187, Operand.tmp 191], argTypes := #[30, 30] }, type := 4, pos := "law.go:368", after := #[{ on := 8, ground := Ground.data }, { on := 12, ground := Ground.data }, { on := 4, ground := Ground.chain }, { on := 4, ground := Ground.guard }], guard := some (4, true) }) rfl (fun K hK => ?_) AllReadyH.nil
                              go_simp
                              refine (HEQ.out).mono ?_
                              rintro e w11 ⟨rfl, hb11⟩
                              have HB11 := Lib.hid hb11
                              clear hb11
                              rw [HEE.out]
                              refine hK.out _ _ (HKP.out _ _ hHeld HB11.out) (fun hHeld => ?_)
                              clear hK K
                              try simp only [Act.put, List.setIfInBounds_toArray, List.set_cons_zero, List.set_cons_succ]
                              refine wpAnyH_take (i := 14) (oi := { dst := some 193, op := Op.unOp UnOp.not 4 (Operand.tmp 192), type := 4, pos := "law.go:368", after := #[{ on := 13, ground := Ground.data }, { on := 4, ground := Ground.guard }], guard := some (4, true) }) (v := ?_) rfl (by kernel_rfl) (by kernel_rfl) (by kernel_rfl) (fun _ _ _ h => h) (Or.inl ⟨by rfl, ?_⟩) hHeld ?_
                              rotate_left 1
                              · intro wz hSw
                                try dsimp only at hSw
                                go_simp
                                try with_reducible rfl
                              try simp only [Act.put, List.setIfInBounds_toArray, List.set_cons_zero, List.set_cons_succ]
                              refine wpAnyH_take (i := 15) (oi := { dst := some 194, op := Op.pick (Operand.tmp 183) (Operand.tmp 193) (Operand.const (Value.bool false)), type := 4, pos := "law.go:368", after := #[{ on := 4, ground := Ground.data }, { on := 14, ground := Ground.data }], guard := none }) (v := ?_) rfl (by kernel_rfl) (by kernel_rfl) (by kernel_rfl) (fun _ _ _ h => h) (Or.inl ⟨by rfl, ?_⟩) hHeld ?_
                              rotate_left 1
                              · intro wz hSw
                                try dsimp only at hSw
                                go_simp
                                try with_reducible rfl
                              try simp only [Act.put, List.setIfInBounds_toArray, List.set_cons_zero, List.set_cons_succ]
                              refine wpAnyH_done (by kernel_rfl) ?_ _
                              refine NoPanic.normal ?_
                              go_wp2
                              go_roundw
                              case rel => exact ⟨f + 1, by go_num, find_next HSB.out HEE.out, HBJ.out.trans (((Below.refl _ wr).drew.trans HB11.out).mono HBJ.out.size)⟩
                              case measure => simp [intOf]; omega
                            | true =>
                              have HEE := Lib.hid hee
                              clear hee
                              have hne : ((f : Int) == (hs.length : Int)) = false := by rw [beq_eq_false_iff_ne]; omega
                              go_wp2
                              refine wp_region_noPanic ?_
                              refine wp_region_held_drew (S := fun wz => wz.cell? ⟨bH, oH + f * 6, none⟩ = some (.int .i64 y.e.kind) ∧ wz.cell? ⟨bH, oH + f * 6 + 1, none⟩ = some (.string y.e.key) ∧ wz.cell? ⟨bH, oH + f * 6 + 2, none⟩ = some (.slice y.A y.e.val.length y.c) ∧ wz.cell? ⟨bH, oH + f * 6 + 3, none⟩ = some (.int .u64 y.e.birth) ∧ wz.cell? ⟨bH, oH + f * 6 + 4, none⟩ = some (.int .u64 y.e.due) ∧ wz.cell? ⟨bH, oH + f * 6 + 5, none⟩ = some (.int .u64 y.e.at_) ∧ wz.cell? ⟨bQ, oQ + q * 6, none⟩ = some (.int .i64 x.e.kind) ∧ wz.cell? ⟨bQ, oQ + q * 6 + 1, none⟩ = some (.string x.e.key) ∧ wz.cell? ⟨bQ, oQ + q * 6 + 2, none⟩ = some (.slice x.A x.e.val.length x.c) ∧ wz.cell? ⟨bQ, oQ + q * 6 + 3, none⟩ = some (.int .u64 x.e.birth) ∧ wz.cell? ⟨bQ, oQ + q * 6 + 4, none⟩ = some (.int .u64 x.e.due) ∧ wz.cell? ⟨bQ, oQ + q * 6 + 5, none⟩ = some (.int .u64 x.e.at_)) (by kernel_rfl) HS.out (fun hHeld => ?_)
                              refine wpAnyH_take (i := 0) (oi := { dst := some 179, op := Op.move (Operand.tmp 11), type := 3, pos := "law.go:368", after := #[], guard := none }) (v := ?_) rfl (by kernel_rfl) (by kernel_rfl) (by kernel_rfl) (fun _ _ _ h => h) (Or.inl ⟨by rfl, ?_⟩) hHeld ?_
                              rotate_left 1
                              · intro wz hSw
                                try dsimp only at hSw
                                go_simp
                                try with_reducible rfl
                              try simp only [Act.put, List.setIfInBounds_toArray, List.set_cons_zero, List.set_cons_succ]
                              refine wpAnyH_take (i := 1) (oi := { dst := some 180, op := Op.move (Operand.tmp 9), type := 38, pos := "law.go:368", after := #[], guard := none }) (v := ?_) rfl (by kernel_rfl) (by kernel_rfl) (by kernel_rfl) (fun _ _ _ h => h) (Or.inl ⟨by rfl, ?_⟩) hHeld ?_
                              rotate_left 1
                              · intro wz hSw
                                try dsimp only at hSw
                                go_simp
                                try with_reducible rfl
                              try simp only [Act.put, List.setIfInBounds_toArray, List.set_cons_zero, List.set_cons_succ]
                              refine wpAnyH_take (i := 2) (oi := { dst := some 181, op := Op.call { callee := Callee.builtin Builtin.len, args := #[Operand.tmp 180], argTypes := #[38] }, type := 3, pos := "law.go:368", after := #[{ on := 1, ground := Ground.data }], guard := none }) (v := ?_) rfl (by kernel_rfl) (by kernel_rfl) (by kernel_rfl) (fun _ _ _ h => h) (Or.inl ⟨by rfl, ?_⟩) hHeld ?_
                              rotate_left 1
                              · intro wz hSw
                                try dsimp only at hSw
                                go_simp
                                try with_reducible rfl
                              try simp only [Act.put, List.setIfInBounds_toArray, List.set_cons_zero, List.set_cons_succ]
                              refine wpAnyH_take (i := 3) (oi := { dst := some 182, op := Op.binOp BinOp.lss 3 (Operand.tmp 179) (Operand.tmp 181) 3, type := 4, pos := "law.go:368", after := #[{ on := 0, ground := Ground.data }, { on := 2, ground := Ground.data }], guard := none }) (v := ?_) rfl (by kernel_rfl) (by kernel_rfl) (by kernel_rfl) (fun _ _ _ h => h) (Or.inl ⟨by rfl, ?_⟩) hHeld ?_
                              rotate_left 1
                              · intro wz hSw
                                try dsimp only at hSw
                                go_simp
                                try with_reducible rfl
                              try simp only [Act.put, List.setIfInBounds_toArray, List.set_cons_zero, List.set_cons_succ]
                              refine wpAnyH_take (i := 4) (oi := { dst := some 183, op := Op.move (Operand.tmp 182), type := 4, pos := "law.go:368", after := #[{ on := 3, ground := Ground.data }], guard := none }) (v := ?_) rfl (by kernel_rfl) (by kernel_rfl) (by kernel_rfl) (fun _ _ _ h => h) (Or.inl ⟨by rfl, ?_⟩) hHeld ?_
                              rotate_left 1
                              · intro wz hSw
                                try dsimp only at hSw
                                go_simp
                                try with_reducible rfl
                              try simp only [Act.put, List.setIfInBounds_toArray, List.set_cons_zero, List.set_cons_succ]
                              refine wpAnyH_take (i := 5) (oi := { dst := some 184, op := Op.move (Operand.tmp 9), type := 38, pos := "law.go:368", after := #[{ on := 4, ground := Ground.guard }], guard := some (4, true) }) (v := ?_) rfl (by kernel_rfl) (by kernel_rfl) (by kernel_rfl) (fun _ _ _ h => h) (Or.inl ⟨by rfl, ?_⟩) hHeld ?_
                              rotate_left 1
                              · intro wz hSw
                                try dsimp only at hSw
                                go_simp
                                try with_reducible rfl
                              try simp only [Act.put, List.setIfInBounds_toArray, List.set_cons_zero, List.set_cons_succ]
                              refine wpAnyH_take (i := 6) (oi := { dst := some 185, op := Op.move (Operand.tmp 11), type := 3, pos := "law.go:368", after := #[{ on := 4, ground := Ground.guard }], guard := some (4, true) }) (v := ?_) rfl (by kernel_rfl) (by kernel_rfl) (by kernel_rfl) (fun _ _ _ h => h) (Or.inl ⟨by rfl, ?_⟩) hHeld ?_
                              rotate_left 1
                              · intro wz hSw
                                try dsimp only at hSw
                                go_simp
                                try with_reducible rfl
                              try simp only [Act.put, List.setIfInBounds_toArray, List.set_cons_zero, List.set_cons_succ]
                              refine wpAnyH_take (i := 7) (oi := { dst := some 186, op := Op.indexAddr 38 (Operand.tmp 184) (Operand.tmp 185), type := 0, pos := "law.go:368", after := #[{ on := 5, ground := Ground.data }, { on := 6, ground := Ground.data }, { on := 4, ground := Ground.guard }], guard := some (4, true) }) (v := ?_) rfl (by kernel_rfl) (by kernel_rfl) (by kernel_rfl) (fun _ _ _ h => h) (Or.inl ⟨by rfl, ?_⟩) hHeld ?_
                              rotate_left 1
                              · intro wz hSw
                                try dsimp only at hSw
                                go_simp
                                try with_reducible rfl
                              try simp only [Act.put, List.setIfInBounds_toArray, List.set_cons_zero, List.set_cons_succ]
                              refine wpAnyH_take (i := 8) (oi := { dst := some 187, op := Op.load 30 (Operand.tmp 186), type := 30, pos := "law.go:368", after := #[{ on := 7, ground := Ground.data }, { on := 4, ground := Ground.guard }], guard := some (4, true) }) (v := ?_) rfl (by kernel_rfl) (by kernel_rfl) (by kernel_rfl) (fun _ _ _ h => h) (Or.inl ⟨by rfl, ?_⟩) hHeld ?_
                              rotate_left 1
                              · intro wz hSw
                                try dsimp only at hSw
                                go_simp
                                try with_reducible rfl
                              try simp only [Act.put, List.setIfInBounds_toArray, List.set_cons_zero, List.set_cons_succ]
                              refine wpAnyH_take (i := 9) (oi := { dst := some 188, op := Op.move (Operand.tmp 19), type := 38, pos := "law.go:368", after := #[{ on := 4, ground := Ground.guard }], guard := some (4, true) }) (v := ?_) rfl (by kernel_rfl) (by kernel_rfl) (by kernel_rfl) (fun _ _ _ h => h) (Or.inl ⟨by rfl, ?_⟩) hHeld ?_
                              rotate_left 1
                              · intro wz hSw
                                try dsimp only at hSw
                                go_simp
                                try with_reducible rfl
                              try simp only [Act.put, List.setIfInBounds_toArray, List.set_cons_zero, List.set_cons_succ]
                              refine wpAnyH_take (i := 10) (oi := { dst := some 189, op := Op.move (Operand.tmp 23), type := 3, pos := "law.go:368", after := #[{ on := 4, ground := Ground.guard }], guard := some (4, true) }) (v := ?_) rfl (by kernel_rfl) (by kernel_rfl) (by kernel_rfl) (fun _ _ _ h => h) (Or.inl ⟨by rfl, ?_⟩) hHeld ?_
                              rotate_left 1
                              · intro wz hSw
                                try dsimp only at hSw
                                go_simp
                                try with_reducible rfl
                              try simp only [Act.put, List.setIfInBounds_toArray, List.set_cons_zero, List.set_cons_succ]
                              refine wpAnyH_take (i := 11) (oi := { dst := some 190, op := Op.indexAddr 38 (Operand.tmp 188) (Operand.tmp 189), type := 0, pos := "law.go:368", after := #[{ on := 9, ground := Ground.data }, { on := 10, ground := Ground.data }, { on := 4, ground := Ground.guard }], guard := some (4, true) }) (v := ?_) rfl (by kernel_rfl) (by kernel_rfl) (by kernel_rfl) (fun _ _ _ h => h) (Or.inl ⟨by rfl, ?_⟩) hHeld ?_
                              rotate_left 1
                              · intro wz hSw
                                try dsimp only at hSw
                                go_simp
                                try with_reducible rfl
                              try simp only [Act.put, List.setIfInBounds_toArray, List.set_cons_zero, List.set_cons_succ]
                              refine wpAnyH_take (i := 12) (oi := { dst := some 191, op := Op.load 30 (Operand.tmp 190), type := 30, pos := "law.go:368", after := #[{ on := 11, ground := Ground.data }, { on := 4, ground := Ground.guard }], guard := some (4, true) }) (v := ?_) rfl (by kernel_rfl) (by kernel_rfl) (by kernel_rfl) (fun _ _ _ h => h) (Or.inl ⟨by rfl, ?_⟩) hHeld ?_
                              rotate_left 1
                              · intro wz hSw
                                try dsimp only at hSw
                                go_simp
                                try with_reducible rfl
                              try simp only [Act.put, List.setIfInBounds_toArray, List.set_cons_zero, List.set_cons_succ]
                              refine wpAnyH_ready (rs := [13]) (by kernel_rfl) (by simp) ?_
                              refine AllReadyH.cons (o := { dst := some 192, op := Op.call { callee := Callee.value (Operand.func 20), args := #[Operand.tmp 187, Operand.tmp 191], argTypes := #[30, 30] }, type := 4, pos := "law.go:368", after := #[{ on := 8, ground := Ground.data }, { on := 12, ground := Ground.data }, { on := 4, ground := Ground.chain }, { on := 4, ground := Ground.guard }], guard := some (4, true) }) rfl (fun K hK => ?_) AllReadyH.nil
                              go_simp
                              refine (HEQ.out).mono ?_
                              rintro e w11 ⟨rfl, hb11⟩
                              have HB11 := Lib.hid hb11
                              clear hb11
                              rw [HEE.out]
                              refine hK.out _ _ (HKP.out _ _ hHeld HB11.out) (fun hHeld => ?_)
                              clear hK K
                              try simp only [Act.put, List.setIfInBounds_toArray, List.set_cons_zero, List.set_cons_succ]
                              refine wpAnyH_take (i := 14) (oi := { dst := some 193, op := Op.unOp UnOp.not 4 (Operand.tmp 192), type := 4, pos := "law.go:368", after := #[{ on := 13, ground := Ground.data }, { on := 4, ground := Ground.guard }], guard := some (4, true) }) (v := ?_) rfl (by kernel_rfl) (by kernel_rfl) (by kernel_rfl) (fun _ _ _ h => h) (Or.inl ⟨by rfl, ?_⟩) hHeld ?_
                              rotate_left 1
                              · intro wz hSw
                                try dsimp only at hSw
                                go_simp
                                try with_reducible rfl
                              try simp only [Act.put, List.setIfInBounds_toArray, List.set_cons_zero, List.set_cons_succ]
                              refine wpAnyH_take (i := 15) (oi := { dst := some 194, op := Op.pick (Operand.tmp 183) (Operand.tmp 193) (Operand.const (Value.bool false)), type := 4, pos := "law.go:368", after := #[{ on := 4, ground := Ground.data }, { on := 14, ground := Ground.data }], guard := none }) (v := ?_) rfl (by kernel_rfl) (by kernel_rfl) (by kernel_rfl) (fun _ _ _ h => h) (Or.inl ⟨by rfl, ?_⟩) hHeld ?_
                              rotate_left 1
                              · intro wz hSw
                                try dsimp only at hSw
                                go_simp
                                try with_reducible rfl
                              try simp only [Act.put, List.setIfInBounds_toArray, List.set_cons_zero, List.set_cons_succ]
                              refine wpAnyH_done (by kernel_rfl) ?_ _
                              refine NoPanic.normal ?_
                              have HB11' := Lib.hid (HBJ.out.trans (((Below.refl _ wr).drew.trans HB11.out).mono HBJ.out.size))
                              have hc11 : ∀ b o : Nat, b < w9.heap.size → w11.drew.cell? ⟨b, o, none⟩ = w9.cell? ⟨b, o, none⟩ := fun b o hb => HB11'.out.cell hb
                              obtain ⟨u0, u1, u2, u3, u4, u5, v0, v1, v2, v3, v4, v5⟩ := HU.out
                              have HS3 := Lib.hid (show w11.drew.cell? ⟨bQ, oQ + q * 6, none⟩ = some (.int .i64 x.e.kind) ∧ w11.drew.cell? ⟨bQ, oQ + q * 6 + 1, none⟩ = some (.string x.e.key) ∧ w11.drew.cell? ⟨bQ, oQ + q * 6 + 2, none⟩ = some (.slice x.A x.e.val.length x.c) ∧ w11.drew.cell? ⟨bQ, oQ + q * 6 + 3, none⟩ = some (.int .u64 x.e.birth) ∧ w11.drew.cell? ⟨bQ, oQ + q * 6 + 4, none⟩ = some (.int .u64 x.e.due) ∧ w11.drew.cell? ⟨bQ, oQ + q * 6 + 5, none⟩ = some (.int .u64 x.e.at_) ∧ w11.drew.cell? ⟨bY, oY + q * 6, none⟩ = some (.int .i64 z.e.kind) ∧ w11.drew.cell? ⟨bY, oY + q * 6 + 1, none⟩ = some (.string z.e.key) ∧ w11.drew.cell? ⟨bY, oY + q * 6 + 2, none⟩ = some (.slice z.A z.e.val.length z.c) ∧ w11.drew.cell? ⟨bY, oY + q * 6 + 3, none⟩ = some (.int .u64 z.e.birth) ∧ w11.drew.cell? ⟨bY, oY + q * 6 + 4, none⟩ = some (.int .u64 z.e.due) ∧ w11.drew.cell? ⟨bY, oY + q * 6 + 5, none⟩ = some (.int .u64 z.e.at_) from ⟨(hc11 _ _ hbQ).trans u0, (hc11 _ _ hbQ).trans u1, (hc11 _ _ hbQ).trans u2, (hc11 _ _ hbQ).trans u3, (hc11 _ _ hbQ).trans u4, (hc11 _ _ hbQ).trans u5, (hc11 _ _ hbY).trans v0, (hc11 _ _ hbY).trans v1, (hc11 _ _ hbY).trans v2, (hc11 _ _ hbY).trans v3, (hc11 _ _ hbY).trans v4, (hc11 _ _ hbY).trans v5⟩)
                              have HEQ3 := Lib.hid (equal_any x z w11.drew ((HOX.out.below HB11'.out).more HB11'.out.size).drew' ((HOZ.out.below HB11'.out).more HB11'.out.size).drew')
                              simp only [Hv.v] at HEQ3
                              clear u0 u1 u2 u3 u4 u5 v0 v1 v2 v3 v4 v5 hc11 hHeld
                              go_wp2
                              refine wp_region_noPanic ?_
                              refine wp_region_held_drew (S := fun wz => wz.cell? ⟨bQ, oQ + q * 6, none⟩ = some (.int .i64 x.e.kind) ∧ wz.cell? ⟨bQ, oQ + q * 6 + 1, none⟩ = some (.string x.e.key) ∧ wz.cell? ⟨bQ, oQ + q * 6 + 2, none⟩ = some (.slice x.A x.e.val.length x.c) ∧ wz.cell? ⟨bQ, oQ + q * 6 + 3, none⟩ = some (.int .u64 x.e.birth) ∧ wz.cell? ⟨bQ, oQ + q * 6 + 4, none⟩ = some (.int .u64 x.e.due) ∧ wz.cell? ⟨bQ, oQ + q * 6 + 5, none⟩ = some (.int .u64 x.e.at_) ∧ wz.cell? ⟨bY, oY + q * 6, none⟩ = some (.int .i64 z.e.kind) ∧ wz.cell? ⟨bY, oY + q * 6 + 1, none⟩ = some (.string z.e.key) ∧ wz.cell? ⟨bY, oY + q * 6 + 2, none⟩ = some (.slice z.A z.e.val.length z.c) ∧ wz.cell? ⟨bY, oY + q * 6 + 3, none⟩ = some (.int .u64 z.e.birth) ∧ wz.cell? ⟨bY, oY + q * 6 + 4, none⟩ = some (.int .u64 z.e.due) ∧ wz.cell? ⟨bY, oY + q * 6 + 5, none⟩ = some (.int .u64 z.e.at_)) (by kernel_rfl) HS3.out (fun hHeld => ?_)
                              refine wpAnyH_take (i := 0) (oi := { dst := some 197, op := Op.move (Operand.tmp 11), type := 3, pos := "law.go:371", after := #[], guard := none }) (v := ?_) rfl (by kernel_rfl) (by kernel_rfl) (by kernel_rfl) (fun _ _ _ h => h) (Or.inl ⟨by rfl, ?_⟩) hHeld ?_
                              rotate_left 1
                              · intro wz hSw
                                try dsimp only at hSw
                                go_simp
                                try with_reducible rfl
                              try simp only [Act.put, List.setIfInBounds_toArray, List.set_cons_zero, List.set_cons_succ]
                              refine wpAnyH_take (i := 1) (oi := { dst := some 198, op := Op.move (Operand.tmp 9), type := 38, pos := "law.go:371", after := #[], guard := none }) (v := ?_) rfl (by kernel_rfl) (by kernel_rfl) (by kernel_rfl) (fun _ _ _ h => h) (Or.inl ⟨by rfl, ?_⟩) hHeld ?_
                              rotate_left 1
                              · intro wz hSw
                                try dsimp only at hSw
                                go_simp
                                try with_reducible rfl
                              try simp only [Act.put, List.setIfInBounds_toArray, List.set_cons_zero, List.set_cons_succ]
                              refine wpAnyH_take (i := 2) (oi := { dst := some 199, op := Op.call { callee := Callee.builtin Builtin.len, args := #[Operand.tmp 198], argTypes := #[38] }, type := 3, pos := "law.go:371", after := #[{ on := 1, ground := Ground.data }], guard := none }) (v := ?_) rfl (by kernel_rfl) (by kernel_rfl) (by kernel_rfl) (fun _ _ _ h => h) (Or.inl ⟨by rfl, ?_⟩) hHeld ?_
                              rotate_left 1
                              · intro wz hSw
                                try dsimp only at hSw
                                go_simp
                                try with_reducible rfl
                              try simp only [Act.put, List.setIfInBounds_toArray, List.set_cons_zero, List.set_cons_succ]
                              refine wpAnyH_take (i := 3) (oi := { dst := some 200, op := Op.binOp BinOp.eql 3 (Operand.tmp 197) (Operand.tmp 199) 3, type := 4, pos := "law.go:371", after := #[{ on := 0, ground := Ground.data }, { on := 2, ground := Ground.data }], guard := none }) (v := ?_) rfl (by kernel_rfl) (by kernel_rfl) (by kernel_rfl) (fun _ _ _ h => h) (Or.inl ⟨by rfl, ?_⟩) hHeld ?_
                              rotate_left 1
                              · intro wz hSw
                                try dsimp only at hSw
                                go_simp
                                try with_reducible rfl
                              try simp only [Act.put, List.setIfInBounds_toArray, List.set_cons_zero, List.set_cons_succ]
                              refine wpAnyH_take (i := 4) (oi := { dst := some 201, op := Op.move (Operand.tmp 200), type := 4, pos := "law.go:371", after := #[{ on := 3, ground := Ground.data }], guard := none }) (v := ?_) rfl (by kernel_rfl) (by kernel_rfl) (by kernel_rfl) (fun _ _ _ h => h) (Or.inl ⟨by rfl, ?_⟩) hHeld ?_
                              rotate_left 1
                              · intro wz hSw
                                try dsimp only at hSw
                                go_simp
                                try with_reducible rfl
                              try simp only [Act.put, List.setIfInBounds_toArray, List.set_cons_zero, List.set_cons_succ]
                              refine wpAnyH_take (i := 5) (oi := { dst := some 202, op := Op.move (Operand.tmp 19), type := 38, pos := "law.go:371", after := #[{ on := 4, ground := Ground.guard }], guard := some (4, false) }) (v := ?_) rfl (by kernel_rfl) (by kernel_rfl) (by kernel_rfl) (fun _ _ _ h => h) (Or.inl ⟨by rfl, ?_⟩) hHeld ?_
                              rotate_left 1
                              · intro wz hSw
                                try dsimp only at hSw
                                go_simp
                                try with_reducible rfl
                              try simp only [Act.put, List.setIfInBounds_toArray, List.set_cons_zero, List.set_cons_succ]
                              refine wpAnyH_take (i := 6) (oi := { dst := some 203, op := Op.move (Operand.tmp 23), type := 3, pos := "law.go:371", after := #[{ on := 4, ground := Ground.guard }], guard := some (4, false) }) (v := ?_) rfl (by kernel_rfl) (by kernel_rfl) (by kernel_rfl) (fun _ _ _ h => h) (Or.inl ⟨by rfl, ?_⟩) hHeld ?_
                              rotate_left 1
                              · intro wz hSw
                                try dsimp only at hSw
                                go_simp
                                try with_reducible rfl
                              try simp only [Act.put, List.setIfInBounds_toArray, List.set_cons_zero, List.set_cons_succ]
                              refine wpAnyH_take (i := 7) (oi := { dst := some 204, op := Op.indexAddr 38 (Operand.tmp 202) (Operand.tmp 203), type := 0, pos := "law.go:371", after := #[{ on := 5, ground := Ground.data }, { on := 6, ground := Ground.data }, { on := 4, ground := Ground.guard }], guard := some (4, false) }) (v := ?_) rfl (by kernel_rfl) (by kernel_rfl) (by kernel_rfl) (fun _ _ _ h => h) (Or.inl ⟨by rfl, ?_⟩) hHeld ?_
                              rotate_left 1
                              · intro wz hSw
                                try dsimp only at hSw
                                go_simp
                                try with_reducible rfl
                              try simp only [Act.put, List.setIfInBounds_toArray, List.set_cons_zero, List.set_cons_succ]
                              refine wpAnyH_take (i := 8) (oi := { dst := some 205, op := Op.load 30 (Operand.tmp 204), type := 30, pos := "law.go:371", after := #[{ on := 7, ground := Ground.data }, { on := 4, ground := Ground.guard }], guard := some (4, false) }) (v := ?_) rfl (by kernel_rfl) (by kernel_rfl) (by kernel_rfl) (fun _ _ _ h => h) (Or.inl ⟨by rfl, ?_⟩) hHeld ?_
                              rotate_left 1
                              · intro wz hSw
                                try dsimp only at hSw
                                go_simp
                                try with_reducible rfl
                              try simp only [Act.put, List.setIfInBounds_toArray, List.set_cons_zero, List.set_cons_succ]
                              refine wpAnyH_take (i := 9) (oi := { dst := some 206, op := Op.move (Operand.tmp 21), type := 38, pos := "law.go:371", after := #[{ on := 4, ground := Ground.guard }], guard := some (4, false) }) (v := ?_) rfl (by kernel_rfl) (by kernel_rfl) (by kernel_rfl) (fun _ _ _ h => h) (Or.inl ⟨by rfl, ?_⟩) hHeld ?_
                              rotate_left 1
                              · intro wz hSw
                                try dsimp only at hSw
                                go_simp
                                try with_reducible rfl
                              try simp only [Act.put, List.setIfInBounds_toArray, List.set_cons_zero, List.set_cons_succ]
                              refine wpAnyH_take (i := 10) (oi := { dst := some 207, op := Op.move (Operand.tmp 23), type := 3, pos := "law.go:371", after := #[{ on := 4, ground := Ground.guard }], guard := some (4, false) }) (v := ?_) rfl (by kernel_rfl) (by kernel_rfl) (by kernel_rfl) (fun _ _ _ h => h) (Or.inl ⟨by rfl, ?_⟩) hHeld ?_
                              rotate_left 1
                              · intro wz hSw
                                try dsimp only at hSw
                                go_simp
                                try with_reducible rfl
                              try simp only [Act.put, List.setIfInBounds_toArray, List.set_cons_zero, List.set_cons_succ]
                              refine wpAnyH_take (i := 11) (oi := { dst := some 208, op := Op.indexAddr 38 (Operand.tmp 206) (Operand.tmp 207), type := 0, pos := "law.go:371", after := #[{ on := 9, ground := Ground.data }, { on := 10, ground := Ground.data }, { on := 4, ground := Ground.guard }], guard := some (4, false) }) (v := ?_) rfl (by kernel_rfl) (by kernel_rfl) (by kernel_rfl) (fun _ _ _ h => h) (Or.inl ⟨by rfl, ?_⟩) hHeld ?_
                              rotate_left 1
                              · intro wz hSw
                                try dsimp only at hSw
                                go_simp
                                try with_reducible rfl
                              try simp only [Act.put, List.setIfInBounds_toArray, List.set_cons_zero, List.set_cons_succ]
                              refine wpAnyH_take (i := 12) (oi := { dst := some 209, op := Op.load 30 (Operand.tmp 208), type := 30, pos := "law.go:371", after := #[{ on := 11, ground := Ground.data }, { on := 4, ground := Ground.guard }], guard := some (4, false) }) (v := ?_) rfl (by kernel_rfl) (by kernel_rfl) (by kernel_rfl) (fun _ _ _ h => h) (Or.inl ⟨by rfl, ?_⟩) hHeld ?_
                              rotate_left 1
                              · intro wz hSw
                                try dsimp only at hSw
                                go_simp
                                try with_reducible rfl
                              try simp only [Act.put, List.setIfInBounds_toArray, List.set_cons_zero, List.set_cons_succ]
                              refine wpAnyH_ready (rs := [13]) (by kernel_rfl) (by simp) ?_
                              refine AllReadyH.cons (o := { dst := some 210, op := Op.call { callee := Callee.value (Operand.func 20), args := #[Operand.tmp 205, Operand.tmp 209], argTypes := #[30, 30] }, type := 4, pos := "law.go:371", after := #[{ on := 8, ground := Ground.data }, { on := 12, ground := Ground.data }, { on := 4, ground := Ground.chain }, { on := 4, ground := Ground.guard }], guard := some (4, false) }) rfl (fun K hK => ?_) AllReadyH.nil
                              go_simp
                              refine (HEQ3.out).mono ?_
                              rintro e w12 ⟨rfl, hb12⟩
                              have HB12 := Lib.hid hb12
                              clear hb12
                              rw [HXZ.out]
                              refine hK.out _ _ (HKP3.out _ _ hHeld HB12.out) (fun hHeld => ?_)
                              clear hK K
                              try simp only [Act.put, List.setIfInBounds_toArray, List.set_cons_zero, List.set_cons_succ]
                              refine wpAnyH_take (i := 14) (oi := { dst := some 211, op := Op.unOp UnOp.not 4 (Operand.tmp 210), type := 4, pos := "law.go:371", after := #[{ on := 13, ground := Ground.data }, { on := 4, ground := Ground.guard }], guard := some (4, false) }) (v := ?_) rfl (by kernel_rfl) (by kernel_rfl) (by kernel_rfl) (fun _ _ _ h => h) (Or.inl ⟨by rfl, ?_⟩) hHeld ?_
                              rotate_left 1
                              · intro wz hSw
                                try dsimp only at hSw
                                go_simp
                                try with_reducible rfl
                              try simp only [Act.put, List.setIfInBounds_toArray, List.set_cons_zero, List.set_cons_succ]
                              refine wpAnyH_take (i := 15) (oi := { dst := some 212, op := Op.pick (Operand.tmp 201) (Operand.const (Value.bool true)) (Operand.tmp 211), type := 4, pos := "law.go:371", after := #[{ on := 4, ground := Ground.data }, { on := 14, ground := Ground.data }], guard := none }) (v := ?_) rfl (by kernel_rfl) (by kernel_rfl) (by kernel_rfl) (fun _ _ _ h => h) (Or.inl ⟨by rfl, ?_⟩) hHeld ?_
                              rotate_left 1
                              · intro wz hSw
                                try dsimp only at hSw
                                go_simp
                                try with_reducible rfl
                              try simp only [Act.put, List.setIfInBounds_toArray, List.set_cons_zero, List.set_cons_succ]
                              refine wpAnyH_done (by kernel_rfl) ?_ _
                              refine NoPanic.normal ?_
                              go_wp2
                              go_roundw
                              case rel => exact ⟨q + 1, f + 1, by omega, by go_num, by go_num, by omega, find_here HSB.out, HB11'.out.trans (((Below.refl _ w11).drew.trans HB12.out).mono HB11'.out.size)⟩
                              case measure => simp [intOf]; omega
                        · have hd : decide ((q : Int) < (k : Int)) = false := by simp; omega
                          have hqe : Hid (q = k) := Lib.hid (by omega)
                          have hcn := HC.out.take (t1 := t1) (t2 := t2) (k := k) (fr' := f) HRL1.out HRL2.out HWT1.out HWT2.out HLO1.out HLO2.out hkw.out (by rw [hbnd.out.2]; exact hf) (by rw [← hqe.out]; exact HSUB.out)
                          have HCN := Lib.hid hcn
                          have HTF := Lib.hid (HT9.out.on HBI.out)
                          have HAF := Lib.hid (HA9.out.on HBI.out)
                          clear hcn
                          go_wp2
                          go_roundw
                          case rel => exact ⟨i + 1, tk + k, f, m1, n1, s1.with_ t1, b1, m2, n2, s2.with_ t2, AX, cX, hs, by omega, by go_num, rfl, by go_num, rfl, HTF.out, HAF.out, HCN.out⟩
                          case measure => simp [intOf]; omega
                    · have hd1 : (what == 1) = false := by simpa using hw1
                      by_cases hw3 : what = 2
                      · have hd2 : (what == 2) = true := by simpa using hw3
                        have hd3 : ¬ (0 : Int) ≤ am := fun e => hw2 ⟨hw3, e⟩
                        clear hw1 hw2 hw3
                        go_wp2
                        go_roundw
                        case rel => exact ⟨i + 1, tk, fr, m1, n1, s1, b1, m2, n2, s2, AX, cX, hs, by omega, by go_num, rfl, rfl, rfl, HT6.out, HA6.out, HC.out.more⟩
                        case measure => simp [intOf]; omega
                      · have hd2 : (what == 2) = false := by simpa using hw3
                        clear hw1 hw2 hw3 x2
                        go_wp2
                        go_roundw
                        case rel => exact ⟨i + 1, tk, fr, m1, n1, s1, b1, m2, n2, s2, AX, cX, hs, by omega, by go_num, rfl, rfl, rfl, HT6.out, HA6.out, HC.out.more⟩
                        case measure => simp [intOf]; omega
                · have hd : decide ((i : Int) < (n : Int)) = false := by simp; omega
                  have hmem : s1 ∈ s1 :: b1 := by simp
                  have hws := (HT.out.h1.wts s1 hmem).1
                  have hwl : s1.t.wait.length ≤ s1.t.rl.room := Nat.le_trans hws.many hws.room
                  have hlo := lost_yes wo w2.heap.size w2.heap.size n1 m1 _ s1 HT.out.h1 hmem
                  have hrm := removed_yes wo w2.heap.size w2.heap.size n1 m1 [] b1 s1 HT.out.h1
                  rw [HC.out.id1] at hlo hrm
                  have HLO := Lib.hid hlo
                  have HRM := Lib.hid hrm
                  have hsum := HC.out.sum
                  have hb1 := hbnd.out.1
                  have hb2 := hbnd.out.2
                  have hroom : s1.t.rl.room = room.toNat := HC.out.r1.room
                  generalize s1.t.wait.length = wl at *
                  generalize s1.t.lost = lo at *
                  have hle : (wl : Int) ≤ room := by have := hws.room1; omega
                  have hz1 : (tk : Int) ≤ 600 := by omega
                  have hz2 : (wl : Int) ≤ 600 := by omega
                  have hz3 : (lo : Int) ≤ 600 := by omega
                  have heq : ((tk : Int) + (wl : Int) + (lo : Int) == (hs.length : Int)) = true := by
                    rw [beq_iff_eq]
                    omega
                  clear hws hwl hmem hlo hrm hsum hb1 hb2 hroom hBW
                  go_wp2_with fail
                  refine HLO.out.mono ?_
                  rintro e w7 ⟨rfl, rfl⟩
                  go_wp2_with fail
                  refine HRM.out.mono ?_
                  rintro e w8 ⟨rfl, hT8⟩
                  have hW8 := HT.out.step1 hT8
                  have HB8 := Lib.hid (HB2.out.trans (hW8.below.mono HB2.out.size))
                  have kd := HK02.out.below hW8.below HK02.out.lt
                  have a2 := kd.cell 2
                  simp only [List.getElem?_toArray, List.getElem?_cons_zero, List.getElem?_cons_succ] at a2
                  clear kd hW8 hT8
                  go_wp2_with fail
                  refine (known_any _).mono ?_
                  rintro e w9 ⟨rfl, hb9⟩
                  have HB9 := Lib.hid (HB8.out.trans (hb9.mono HB8.out.size))
                  clear hb9
                  go_wp2
                  go_ret
                  exact ⟨rfl, HB9.out⟩

set_option maxRecDepth 100000 in
theorem holds_lifted (os : Os) (started : os.Started) (H : Type) (enc : TypeId × Value → H) :
    ReturnsInHanded {} Try.checked os 5 .any (Rows.watchHoldsSpec.pre6 enc Try.prog Try.f5 Rows.watchHoldsRow.domain false) (Rows.watchHoldsSpec.post enc Try.prog Try.f5 false true false false) := by
  refine returnsInHanded_of_change_sized (C := Try.checked) own started (by kernel_rfl) Try.func5
    (ChangeSpec.witness6 (enc := enc) (C := Try.checked) false ⟨#[], #[.agg #[.string ⟨#[]⟩, .slice none 0 0, .int .i64 0, .bool false], .agg #[.string ⟨#[]⟩, .slice none 0 0, .int .i64 0, .bool false], .slice none 0 0], []⟩ 8 (by kernel_rfl) (by kernel_rfl) (by kernel_rfl) (by kernel_rfl)) ?_
  intro W base args ds gs before hval hW _ _ _
  have hval : ∀ (j : Nat) t v, Try.f5.params[j]? = some t → args[j]? = some v → Value.okWide Try.prog W .any base t v := hval
  have hW : DataW.Whole enc Try.prog Try.f5.params.toList Rows.watchHoldsSpec.vars false W args.toList ds gs before := hW
  have hW0 := hW
  obtain ⟨p, q, hA, _, rfl, _, _⟩ := hW
  rw [Try.params5] at hA hval
  obtain ⟨v0, v1, v2, d0, d1, d2, p0, p1, p2, rfl, rfl, rfl, h0, h1, h2⟩ := trodAll_three hA
  obtain ⟨r, rfl, hr⟩ := in_rule (hval 0 24 v0 rfl rfl) h0
  obtain ⟨o, rfl, ho⟩ := in_rule (hval 1 24 v1 rfl rfl) h1
  obtain ⟨A, c, l, rfl, hl, hin, hmax⟩ := in_acts (hval 2 45 v2 rfl rfl) h2
  refine (holds_law r o l A l.length c W hr ho rfl hl hin hmax).mono fun e W' ⟨he, hb⟩ => ?_
  subst he
  refine ⟨_, rfl, law_done rfl (by kernel_rfl) (by decide +kernel) (fun ds hl => ?_) hW0 hb⟩
  match ds, hl with
  | [_, _, _], _ => rfl

theorem holds_holds : Rows.WatchHoldsSaid :=
  OpenClaim.holds_of_wide 5 Try.f5 rfl rfl rfl rfl rfl rfl rfl ⟨rfl, rfl, rfl, rfl, rfl⟩ rfl rfl rfl rfl rfl (by kernel_rfl) Try.func5 (by kernel_rfl)
    (of_decide_eq_true (by kernel_rfl)) (by unfold Func.isWrapper; first | (rw [if_pos (by decide +kernel)]; kernel_rfl) | (rw [if_neg (by decide +kernel)]; exact ⟨rfl, rfl⟩))
    (fun os started H enc _ => holds_lifted os started H enc)

#print axioms holds_holds
end Go.Proofs.Ytfimgkjdfjlkhaa
