/- 'takes' of events that are those that wait. -/
import Derived.Test.YtfimgkjdfjlkhaaMp
namespace Go.Proofs.Ytfimgkjdfjlkhaa
open Go.RowKit Go.Deep Go.Maps

theorem reads6 {w : World} {B n j : Nat} {A : Option Addr} {hs : List Hv} (h : Reads w B 6 A n (ecells hs)) (hj : j < n) : ∃ b o : Nat, A = some ⟨b, o, none⟩ ∧ b < B ∧ w.cell? ⟨b, o + j * 6, none⟩ = some (.int .i64 (hnth hs j).e.kind) ∧ w.cell? ⟨b, o + j * 6 + 1, none⟩ = some (.string (hnth hs j).e.key) ∧ w.cell? ⟨b, o + j * 6 + 2, none⟩ = some (.slice (hnth hs j).A (hnth hs j).e.val.length (hnth hs j).c) ∧ w.cell? ⟨b, o + j * 6 + 3, none⟩ = some (.int .u64 (hnth hs j).e.birth) ∧ w.cell? ⟨b, o + j * 6 + 4, none⟩ = some (.int .u64 (hnth hs j).e.due) ∧ w.cell? ⟨b, o + j * 6 + 5, none⟩ = some (.int .u64 (hnth hs j).e.at_) := by
  have hl : hs.length = n := by have := h.1; rw [ecells_len] at this; omega
  obtain ⟨ad, e, hb, hc⟩ := h.2 (by omega)
  have hat := fun i hi => ecells_at hs j i (by omega) hi
  have hs0 : ad.spot = none := by
    have := hc 0 _ (by have := ecells_at hs 0 0 (by omega) (by omega); simpa [Hv.cells] using this)
    have := spot_of_cell this
    unfold Addr.add at this; simpa using this
  obtain ⟨b, o, s⟩ := ad
  simp only at hs0
  subst hs0
  refine ⟨b, o, e, hb, ?_⟩
  have hcell : ∀ i v, (hnth hs j).cells[i]? = some v → i < 6 → w.cell? ⟨b, o + j * 6 + i, none⟩ = some v := fun i v hv hi => by
    have := hc (j * 6 + i) v (by rw [hat i hi]; exact hv)
    rwa [add_spot _ _ rfl, ← Nat.add_assoc] at this
  exact ⟨hcell 0 _ rfl (by omega), hcell 1 _ rfl (by omega), hcell 2 _ rfl (by omega), hcell 3 _ rfl (by omega), hcell 4 _ rfl (by omega), hcell 5 _ rfl (by omega)⟩
theorem EvOwn.ok {w : World} {base : Nat} {h : Hv} (o : EvOwn w base h) : h.Ok w w.heap.size := by
  obtain ⟨A, cap, e, hr⟩ := own_slice o.1
  injection e with e1 e2 e3
  rw [← e1] at hr
  refine ⟨hr, o.2.1, fun hA => ?_⟩
  rcases o.1.2 with ⟨e, e0⟩ | ⟨g, cap', cur, e, _⟩
  · injection e with _ _ e3
    exact ⟨e0, e3⟩
  · injection e with e _ _
    rw [hA] at e; cases e
theorem ints_at_nth {k : IntKind} {zs : List Int} {j : Nat} (h : j < zs.length) : (ints k zs)[j]? = some (.int k (nth zs j)) := by
  unfold ints
  rw [List.getElem?_map, List.getElem?_eq_getElem h, nth_eq h]
  rfl
/-- The bytes of a row, whichever they are. -/
def RowOk (w : World) (A : Option Addr) (len : Nat) : Prop := 0 < len → ∃ g cur, A = some ⟨g, 0, none⟩ ∧ w.heap[g]? = some (.cells cur 5 (0, 0)) ∧ ∀ q < len, ∃ z : Int, cur[q]? = some (.int .u8 z)
theorem EvOwn.rowOk {w : World} {base : Nat} {h : Hv} (o : EvOwn w base h) : RowOk w h.A h.e.val.length := by
  intro hl
  rcases o.1.2 with ⟨_, e0⟩ | ⟨g, cap, cur, e, _, hh, _, _, _, ht⟩
  · omega
  · injection e with e1 e2 e3
    refine ⟨g, cur, e1, hh, fun q hq => ⟨nth h.e.val q, ?_⟩⟩
    have h1 : (cur.toList.take (h.e.val.length * 1))[q]? = (ints .u8 h.e.val)[q]? := by rw [ht]
    rw [Nat.mul_one, List.getElem?_take_of_lt hq] at h1
    rw [← Array.getElem?_toList, h1, ints_at_nth hq]
theorem RowOk.set {w : World} {g len q : Nat} {z : Int} (h : RowOk w (some ⟨g, 0, none⟩) len) : RowOk (w.setCell ⟨g, q, none⟩ (.int .u8 z)) (some ⟨g, 0, none⟩) len := by
  intro hl
  obtain ⟨g', cur, e, hh, hc⟩ := h hl
  injection e with e; injection e with e
  subst e
  refine ⟨g, cur.setIfInBounds q (.int .u8 z), rfl, Blk.set_ (show Blk w g 5 cur from hh) q _, fun p hp => ?_⟩
  by_cases e : q = p
  · subst e
    obtain ⟨z', hz⟩ := hc q hp
    have := (Array.getElem?_eq_some_iff.1 hz).1
    exact ⟨z, by rw [Array.getElem?_setIfInBounds_self_of_lt this]⟩
  · obtain ⟨z', hz⟩ := hc p hp
    exact ⟨z', by rw [Array.getElem?_setIfInBounds_ne e]; exact hz⟩

theorem wb_take_mem {a : List Hv} {i k : Nat} (h : k ∈ wb (a.take i)) : k ∈ wb a := ((List.take_sublist i a).filterMap _).subset h
theorem wb_not_mem {a : List Hv} {i : Nat} {p : Addr} (hn : (wb a).Nodup) (hi : i < a.length) (hp : (hnth a i).A = some p) : p.block ∉ wb (a.take i) := by
  intro hm
  have e : a = a.take i ++ (hnth a i :: a.drop (i + 1)) := by rw [hnth_eq hi, ← List.drop_eq_getElem_cons hi, List.take_append_drop]
  rw [e, wb_app, List.nodup_append] at hn
  exact hn.2.2 _ hm p.block (List.mem_filterMap.2 ⟨hnth a i, by simp, by rw [hp]; rfl⟩) rfl
theorem wb_take_succ {a : List Hv} {i : Nat} (hi : i < a.length) : ∀ k ∈ wb (a.take i), k ∈ wb (a.take (i + 1)) := fun k hk => by
  rw [List.take_succ_eq_append_getElem hi, wb_app]; exact List.mem_append_left _ hk
theorem wb_take_last {a : List Hv} {i : Nat} {p : Addr} (hi : i < a.length) (hp : (hnth a i).A = some p) : p.block ∈ wb (a.take (i + 1)) := by
  rw [List.take_succ_eq_append_getElem hi, wb_app, ← hnth_eq hi]
  exact List.mem_append_right _ (List.mem_filterMap.2 ⟨hnth a i, by simp, by rw [hp]; rfl⟩)
def takesTo (w : World) (base hb n : Nat) (m : Option Nat) (a b : List Sl) (s : Sl) (k : Nat) (e : Ending) (w' : World) : Prop :=
  e = .returned (.bool true) ∧ ∃ t, HubW w w' base hb m (a ++ s :: b) m n (a ++ s.with_ t :: b) ∧ t.rl = s.t.rl ∧ t.wait = s.t.wait.drop k ∧ t.lost = s.t.lost
set_option maxRecDepth 100000 in
set_option maxHeartbeats 4000000 in
theorem takes_yes (w : World) (base hb n : Nat) (m : Option Nat) (a b : List Sl) (s : Sl) (mx k : Nat) (A2 : Option Addr) (c2 : Nat) (want : List Hv) (h : HubAt w base hb m n (a ++ s :: b)) (hbase : base ≤ w.heap.size) (hsep : (vblks (a ++ s :: b)).Nodup)
    (hk : k = min mx s.t.wait.length) (hw : EvsAt w w.heap.size A2 k want) (heq : evs want = evs (s.t.wait.take k)) (hd1 : 0 < k → ∀ x, A2 = some x → x.block ∉ hubA hb m (a ++ s :: b)) (hd2 : ∀ y ∈ want, 0 < y.e.val.length → ∀ x, y.A = some x → x.block ∉ hubA hb m (a ++ s :: b)) :
    Calls Try.prog 30 #[.pointer (some ⟨hb, 0, none⟩), .int .i64 s.id, .int .i64 mx, .slice A2 k c2] w (takesTo w base hb n m a b s k) := by
  have HTK := Lib.hid (took_any w base hb n m a b s mx h hbase)
  rw [← hk] at HTK
  have HH := Lib.hid h
  have HSEP := Lib.hid hsep
  have HWA := Lib.hid hw
  have HEQ0 := Lib.hid heq
  have HD1 := Lib.hid hd1
  have HD2 := Lib.hid hd2
  have hkl : Hid (k ≤ s.t.wait.length) := Lib.hid (by omega)
  have hwl : s.t.wait.length ≤ 1000 := by have h1 := (h.wts s (by simp)).1; have := h1.many; have := h1.room; have := h1.room2; omega
  have hk1000 : (k : Int) ≤ 1000 := by have := hkl.out; omega
  clear h hk hw heq hd1 hd2 hsep
  go_enter Try.func30, Try.ntmps30
  go_wp2_with fail
  refine HTK.out.mono ?_
  rintro e w1 ⟨A, c, t, rfl, ht, hrl, hwait, hlost, hown⟩
  obtain ⟨hs, hhs⟩ : ∃ hs, hs = s.t.wait.take k := ⟨_, rfl⟩
  rw [← hhs] at hown HEQ0
  have HT := Lib.hid ht
  have HRL := Lib.hid hrl
  have HWT := Lib.hid hwait
  have HLO := Lib.hid hlost
  have HOW := Lib.hid hown
  have HHS := Lib.hid hhs
  have hlen : Hid (hs.length = k) := Lib.hid (by rw [hhs, List.length_take]; have := hkl.out; omega)
  have hvsub : Hid ((wb hs ++ wb t.wait).Sublist (vblks (a ++ s :: b))) := Lib.hid (by
    rw [vblks_mid, hhs, hwait, ← wb_app, List.take_append_drop]
    exact ((List.sublist_append_left _ _).trans (List.sublist_append_right _ _)))
  have hold : Hid (∀ q ∈ wb hs, q ∈ vblks (a ++ s :: b) ∧ q < w.heap.size) := Lib.hid fun q hq => by
    have := hvsub.out.subset (List.mem_append_left _ hq)
    exact ⟨this, (HH.out.vlt q this).2⟩
  have hnd : Hid ((wb hs).Nodup) := Lib.hid ((List.nodup_append.1 (HSEP.out.sublist hvsub.out)).1)
  have hevo : Hid (∀ x ∈ hs, EvOwn w1 base x) := Lib.hid fun x hx => EvOwn.hub HH.out ht.chg ((HH.out.wts s (by simp)).1.own x (by rw [hhs] at hx; exact List.mem_of_mem_take hx))
  have hnrow : Hid (∀ q ∈ wb hs, ∀ cs, w1.heap[q]? ≠ some (.cells cs 25 (0, 0))) := Lib.hid fun q hq cs hc => by
    obtain ⟨x, hx, hxA⟩ := List.mem_filterMap.1 hq
    obtain ⟨cur, hcur⟩ := own_row (hevo.out x hx).1 (g := q) (by cases e : x.A with | none => rw [e] at hxA; cases hxA | some p => rw [e] at hxA; exact hxA)
    rw [hc] at hcur
    injection hcur with hcur; injection hcur with _ hcur; exact absurd hcur (by decide)
  have hfin : Hid (∀ wr, Chg (wb hs) w1 wr → HubW w wr base hb m (a ++ s :: b) m n (a ++ s.with_ t :: b)) := Lib.hid fun wr hc => by
    have h1 := HT.out.wide HH.out
    refine ⟨h1.hub.vchg hc (fun q hq hq2 => ?_) hnrow.out, h1.chg.trans hc (fun q hq => Or.inl (mem_hubA.2 (Or.inr (hold.out q hq).1))), h1.own, h1.sep⟩
    rcases mem_hubA.1 hq2 with e | e
    · have h2 := HT.out.hub.noRow q e
      obtain ⟨x, hx, hxA⟩ := List.mem_filterMap.1 hq
      obtain ⟨cur, hcur⟩ := own_row (hevo.out x hx).1 (g := q) (by cases e : x.A with | none => rw [e] at hxA; cases hxA | some p => rw [e] at hxA; exact hxA)
      exact (h2 cur).1 hcur
    · have hnd2 : (vblks (a ++ s :: b)).Nodup := HSEP.out
      rw [vblks_mid] at hnd2 e
      have e1 : wb s.t.wait = wb hs ++ wb t.wait := by rw [hhs, hwait, ← wb_app, List.take_append_drop]
      rw [e1, List.nodup_append] at hnd2
      obtain ⟨n1, n2, n3⟩ := hnd2
      rw [List.nodup_append] at n2
      obtain ⟨n4, n5, n6⟩ := n2
      rw [List.nodup_append] at n4
      rcases List.mem_append.1 e with e | e
      · exact n3 q e q (by simp [hq]) rfl
      · rcases List.mem_append.1 e with e | e
        · exact n4.2.2 q hq q e rfl
        · exact n6 q (by simp [hq]) q e rfl
  clear ht hrl hwait hlost hown hhs
  go_wp2
  go_loopw [11, 12] (fun x11 _ wr => ∃ i : Nat, i ≤ k ∧ x11 = .int .i64 i ∧ Chg (wb (hs.take i)) w1 wr) (fun x11 _ _ => k - (intOf x11).toNat)
  case atStart => exact ⟨0, Nat.zero_le _, rfl, Chg.refl _ _⟩
  case round =>
    obtain ⟨i, hi, rfl, hc⟩ := hrel
    obtain ⟨wo, hwo⟩ : ∃ x, x = wr := ⟨wr, rfl⟩
    subst hwo
    have HC := Lib.hid hc
    clear hc
    by_cases hlt : i < k
    · have hi0 : (0 : Int) ≤ (i : Int) := Int.natCast_nonneg _
      have hi1 : (i : Int) < (k : Int) := by omega
      obtain ⟨x, hx⟩ : ∃ x, x = hnth hs i := ⟨_, rfl⟩
      obtain ⟨y, hy⟩ : ∃ y, y = hnth want i := ⟨_, rfl⟩
      have hil : i < hs.length := by rw [hlen.out]; exact hlt
      have hkeep : Hid (∀ wz, Chg (wb hs) w1 wz → wz.ownsRow w.heap.size 30 6 (.slice A k c) k (ecells hs)) := Lib.hid fun wz hz => own_same HOW.out fun g hg => hz.block g (HOW.out.lt g hg).2 fun e => by
        have := (hold.out g e).2
        have := (HOW.out.lt g hg).1
        omega
      have hCC := HC.out.mono fun q hq => wb_take_mem (a := hs) hq
      have ho1 := hkeep.out _ hCC
      obtain ⟨A1, c1, e1, hr1⟩ := own_slice ho1
      injection e1 with e1 _ e2
      subst e1 e2
      have HNX := Lib.hid hx
      have HNY := Lib.hid hy
      obtain ⟨bA, oA, rfl, hbA, a0, a1, a2, a3, a4, a5⟩ := reads6 hr1 hlt
      rw [← hx] at a0 a1 a2 a3 a4 a5
      have hchW : Chg (hubA hb m (a ++ s :: b)) w wo := (HT.out.wide HH.out).chg.trans hCC fun q hq => Or.inl (mem_hubA.2 (Or.inr (hold.out q hq).1))
      have hwo := (HWA.out.chg hchW HD1.out HD2.out)
      obtain ⟨bW, oW, rfl, hbW, b0, b1, b2, b3, b4, b5⟩ := hwo.at_ hlt
      rw [← hy] at b0 b1 b2 b3 b4 b5
      have hyo := (hwo.ok y (by rw [hy]; exact hnth_mem (by rw [hwo.len]; exact hlt))).more hchW.size
      have hxe : EvOwn wo base x := by
        have h1 := hevo.out x (by rw [hx]; exact hnth_mem hil)
        refine ⟨own_same h1.1 fun g hg => HC.out.block g (h1.1.lt g hg).2 fun e => ?_, h1.2⟩
        cases e2 : x.A with
        | none => rw [e2] at hg; cases hg
        | some p =>
          rw [e2] at hg
          injection hg with hg
          subst hg
          rw [hx] at e2
          exact wb_not_mem hnd.out hil e2 e
      have HXO := Lib.hid hxe.ok
      have HYO := Lib.hid hyo
      have HXE := Lib.hid hxe
      have HEE : Hid (eqE x.e y.e = true) := Lib.hid (by
        have h1 : (evs want)[i]? = (evs hs)[i]? := by rw [HEQ0.out]
        unfold evs at h1
        have hil2 : i < want.length := by rw [hwo.len]; exact hlt
        rw [List.getElem?_map, List.getElem?_map, List.getElem?_eq_getElem hil2, List.getElem?_eq_getElem hil, ← hnth_eq hil2, ← hnth_eq hil, ← hx, ← hy] at h1
        simp only [Option.map_some, Option.some.injEq] at h1
        rw [h1]
        exact eqE_self _)
      have HS := Lib.hid (show wo.drew.cell? ⟨bA, oA + i * 6, none⟩ = some (.int .i64 x.e.kind) ∧ wo.drew.cell? ⟨bA, oA + i * 6 + 1, none⟩ = some (.string x.e.key) ∧ wo.drew.cell? ⟨bA, oA + i * 6 + 2, none⟩ = some (.slice x.A x.e.val.length x.c) ∧ wo.drew.cell? ⟨bA, oA + i * 6 + 3, none⟩ = some (.int .u64 x.e.birth) ∧ wo.drew.cell? ⟨bA, oA + i * 6 + 4, none⟩ = some (.int .u64 x.e.due) ∧ wo.drew.cell? ⟨bA, oA + i * 6 + 5, none⟩ = some (.int .u64 x.e.at_) ∧ wo.drew.cell? ⟨bW, oW + i * 6, none⟩ = some (.int .i64 y.e.kind) ∧ wo.drew.cell? ⟨bW, oW + i * 6 + 1, none⟩ = some (.string y.e.key) ∧ wo.drew.cell? ⟨bW, oW + i * 6 + 2, none⟩ = some (.slice y.A y.e.val.length y.c) ∧ wo.drew.cell? ⟨bW, oW + i * 6 + 3, none⟩ = some (.int .u64 y.e.birth) ∧ wo.drew.cell? ⟨bW, oW + i * 6 + 4, none⟩ = some (.int .u64 y.e.due) ∧ wo.drew.cell? ⟨bW, oW + i * 6 + 5, none⟩ = some (.int .u64 y.e.at_) from ⟨a0, a1, a2, a3, a4, a5, b0, b1, b2, b3, b4, b5⟩)
      have hbW2 : bW < wo.heap.size := Nat.lt_of_lt_of_le hbW hchW.size
      have HKEEP : Hid (∀ wz wz2 : World, ((fun wz : World => wz.cell? ⟨bA, oA + i * 6, none⟩ = some (.int .i64 x.e.kind) ∧ wz.cell? ⟨bA, oA + i * 6 + 1, none⟩ = some (.string x.e.key) ∧ wz.cell? ⟨bA, oA + i * 6 + 2, none⟩ = some (.slice x.A x.e.val.length x.c) ∧ wz.cell? ⟨bA, oA + i * 6 + 3, none⟩ = some (.int .u64 x.e.birth) ∧ wz.cell? ⟨bA, oA + i * 6 + 4, none⟩ = some (.int .u64 x.e.due) ∧ wz.cell? ⟨bA, oA + i * 6 + 5, none⟩ = some (.int .u64 x.e.at_) ∧ wz.cell? ⟨bW, oW + i * 6, none⟩ = some (.int .i64 y.e.kind) ∧ wz.cell? ⟨bW, oW + i * 6 + 1, none⟩ = some (.string y.e.key) ∧ wz.cell? ⟨bW, oW + i * 6 + 2, none⟩ = some (.slice y.A y.e.val.length y.c) ∧ wz.cell? ⟨bW, oW + i * 6 + 3, none⟩ = some (.int .u64 y.e.birth) ∧ wz.cell? ⟨bW, oW + i * 6 + 4, none⟩ = some (.int .u64 y.e.due) ∧ wz.cell? ⟨bW, oW + i * 6 + 5, none⟩ = some (.int .u64 y.e.at_)) wz) → Below wz.heap.size wz wz2 → ((fun wz : World => wz.cell? ⟨bA, oA + i * 6, none⟩ = some (.int .i64 x.e.kind) ∧ wz.cell? ⟨bA, oA + i * 6 + 1, none⟩ = some (.string x.e.key) ∧ wz.cell? ⟨bA, oA + i * 6 + 2, none⟩ = some (.slice x.A x.e.val.length x.c) ∧ wz.cell? ⟨bA, oA + i * 6 + 3, none⟩ = some (.int .u64 x.e.birth) ∧ wz.cell? ⟨bA, oA + i * 6 + 4, none⟩ = some (.int .u64 x.e.due) ∧ wz.cell? ⟨bA, oA + i * 6 + 5, none⟩ = some (.int .u64 x.e.at_) ∧ wz.cell? ⟨bW, oW + i * 6, none⟩ = some (.int .i64 y.e.kind) ∧ wz.cell? ⟨bW, oW + i * 6 + 1, none⟩ = some (.string y.e.key) ∧ wz.cell? ⟨bW, oW + i * 6 + 2, none⟩ = some (.slice y.A y.e.val.length y.c) ∧ wz.cell? ⟨bW, oW + i * 6 + 3, none⟩ = some (.int .u64 y.e.birth) ∧ wz.cell? ⟨bW, oW + i * 6 + 4, none⟩ = some (.int .u64 y.e.due) ∧ wz.cell? ⟨bW, oW + i * 6 + 5, none⟩ = some (.int .u64 y.e.at_)) wz2)) := Lib.hid fun wz wz2 hq hb2 => by
        obtain ⟨q0, q1, q2, q3, q4, q5, r0, r1, r2, r3, r4, r5⟩ := hq
        exact ⟨cell_later hb2 q0, cell_later hb2 q1, cell_later hb2 q2, cell_later hb2 q3, cell_later hb2 q4, cell_later hb2 q5, cell_later hb2 r0, cell_later hb2 r1, cell_later hb2 r2, cell_later hb2 r3, cell_later hb2 r4, cell_later hb2 r5⟩
      have HEQ := Lib.hid (fun (wz : World) (h1 : x.Ok wz wz.heap.size) (h2 : y.Ok wz wz.heap.size) => equal_any x y wz h1 h2)
      simp only [Hv.v] at HEQ
      clear hwo hxe hyo hr1 ho1 hx hy a0 a1 a2 a3 a4 a5 b0 b1 b2 b3 b4 b5 hbA hbW
      go_wp2
      refine wp_region_noPanic ?_
      refine wp_region_held_drew (S := fun wz => wz.cell? ⟨bA, oA + i * 6, none⟩ = some (.int .i64 x.e.kind) ∧ wz.cell? ⟨bA, oA + i * 6 + 1, none⟩ = some (.string x.e.key) ∧ wz.cell? ⟨bA, oA + i * 6 + 2, none⟩ = some (.slice x.A x.e.val.length x.c) ∧ wz.cell? ⟨bA, oA + i * 6 + 3, none⟩ = some (.int .u64 x.e.birth) ∧ wz.cell? ⟨bA, oA + i * 6 + 4, none⟩ = some (.int .u64 x.e.due) ∧ wz.cell? ⟨bA, oA + i * 6 + 5, none⟩ = some (.int .u64 x.e.at_) ∧ wz.cell? ⟨bW, oW + i * 6, none⟩ = some (.int .i64 y.e.kind) ∧ wz.cell? ⟨bW, oW + i * 6 + 1, none⟩ = some (.string y.e.key) ∧ wz.cell? ⟨bW, oW + i * 6 + 2, none⟩ = some (.slice y.A y.e.val.length y.c) ∧ wz.cell? ⟨bW, oW + i * 6 + 3, none⟩ = some (.int .u64 y.e.birth) ∧ wz.cell? ⟨bW, oW + i * 6 + 4, none⟩ = some (.int .u64 y.e.due) ∧ wz.cell? ⟨bW, oW + i * 6 + 5, none⟩ = some (.int .u64 y.e.at_)) (by kernel_rfl) HS.out (fun hHeld => ?_)
      refine wpAnyH_take (i := 0) (oi := { dst := some 35, op := Op.move (Operand.tmp 9), type := 38, pos := "law.go:59", after := #[], guard := none }) (v := ?_) rfl (by kernel_rfl) (by kernel_rfl) (by kernel_rfl) (fun _ _ _ h => h) (Or.inl ⟨by rfl, ?_⟩) hHeld ?_
      rotate_left 1
      · intro wz hSw
        try dsimp only at hSw
        go_simp
        try with_reducible rfl
      try simp only [Act.put, List.setIfInBounds_toArray, List.set_cons_zero, List.set_cons_succ]
      refine wpAnyH_take (i := 1) (oi := { dst := some 36, op := Op.move (Operand.tmp 11), type := 3, pos := "law.go:59", after := #[], guard := none }) (v := ?_) rfl (by kernel_rfl) (by kernel_rfl) (by kernel_rfl) (fun _ _ _ h => h) (Or.inl ⟨by rfl, ?_⟩) hHeld ?_
      rotate_left 1
      · intro wz hSw
        try dsimp only at hSw
        go_simp
        try with_reducible rfl
      try simp only [Act.put, List.setIfInBounds_toArray, List.set_cons_zero, List.set_cons_succ]
      refine wpAnyH_take (i := 2) (oi := { dst := some 37, op := Op.indexAddr 38 (Operand.tmp 35) (Operand.tmp 36), type := 0, pos := "law.go:59", after := #[{ on := 0, ground := Ground.data }, { on := 1, ground := Ground.data }], guard := none }) (v := ?_) rfl (by kernel_rfl) (by kernel_rfl) (by kernel_rfl) (fun _ _ _ h => h) (Or.inl ⟨by rfl, ?_⟩) hHeld ?_
      rotate_left 1
      · intro wz hSw
        try dsimp only at hSw
        go_simp
        try with_reducible rfl
      try simp only [Act.put, List.setIfInBounds_toArray, List.set_cons_zero, List.set_cons_succ]
      refine wpAnyH_take (i := 3) (oi := { dst := some 38, op := Op.load 30 (Operand.tmp 37), type := 30, pos := "law.go:59", after := #[{ on := 2, ground := Ground.data }], guard := none }) (v := ?_) rfl (by kernel_rfl) (by kernel_rfl) (by kernel_rfl) (fun _ _ _ h => h) (Or.inl ⟨by rfl, ?_⟩) hHeld ?_
      rotate_left 1
      · intro wz hSw
        try dsimp only at hSw
        go_simp
        try with_reducible rfl
      try simp only [Act.put, List.setIfInBounds_toArray, List.set_cons_zero, List.set_cons_succ]
      refine wpAnyH_take (i := 4) (oi := { dst := some 39, op := Op.move (Operand.tmp 3), type := 38, pos := "law.go:59", after := #[], guard := none }) (v := ?_) rfl (by kernel_rfl) (by kernel_rfl) (by kernel_rfl) (fun _ _ _ h => h) (Or.inl ⟨by rfl, ?_⟩) hHeld ?_
      rotate_left 1
      · intro wz hSw
        try dsimp only at hSw
        go_simp
        try with_reducible rfl
      try simp only [Act.put, List.setIfInBounds_toArray, List.set_cons_zero, List.set_cons_succ]
      refine wpAnyH_take (i := 5) (oi := { dst := some 40, op := Op.move (Operand.tmp 11), type := 3, pos := "law.go:59", after := #[], guard := none }) (v := ?_) rfl (by kernel_rfl) (by kernel_rfl) (by kernel_rfl) (fun _ _ _ h => h) (Or.inl ⟨by rfl, ?_⟩) hHeld ?_
      rotate_left 1
      · intro wz hSw
        try dsimp only at hSw
        go_simp
        try with_reducible rfl
      try simp only [Act.put, List.setIfInBounds_toArray, List.set_cons_zero, List.set_cons_succ]
      refine wpAnyH_take (i := 6) (oi := { dst := some 41, op := Op.indexAddr 38 (Operand.tmp 39) (Operand.tmp 40), type := 0, pos := "law.go:59", after := #[{ on := 4, ground := Ground.data }, { on := 5, ground := Ground.data }], guard := none }) (v := ?_) rfl (by kernel_rfl) (by kernel_rfl) (by kernel_rfl) (fun _ _ _ h => h) (Or.inl ⟨by rfl, ?_⟩) hHeld ?_
      rotate_left 1
      · intro wz hSw
        try dsimp only at hSw
        go_simp
        try with_reducible rfl
      try simp only [Act.put, List.setIfInBounds_toArray, List.set_cons_zero, List.set_cons_succ]
      refine wpAnyH_take (i := 7) (oi := { dst := some 42, op := Op.load 30 (Operand.tmp 41), type := 30, pos := "law.go:59", after := #[{ on := 6, ground := Ground.data }], guard := none }) (v := ?_) rfl (by kernel_rfl) (by kernel_rfl) (by kernel_rfl) (fun _ _ _ h => h) (Or.inl ⟨by rfl, ?_⟩) hHeld ?_
      rotate_left 1
      · intro wz hSw
        try dsimp only at hSw
        go_simp
        try with_reducible rfl
      try simp only [Act.put, List.setIfInBounds_toArray, List.set_cons_zero, List.set_cons_succ]
      refine wpAnyH_ready (rs := [8]) (by kernel_rfl) (by simp) ?_
      refine AllReadyH.cons (o := { dst := some 43, op := Op.call { callee := Callee.value (Operand.func 20), args := #[Operand.tmp 38, Operand.tmp 42], argTypes := #[30, 30] }, type := 4, pos := "law.go:59", after := #[{ on := 3, ground := Ground.data }, { on := 7, ground := Ground.data }], guard := none }) rfl (fun K hK => ?_) AllReadyH.nil
      go_simp
      refine (HEQ.out _ HXO.out.drew' HYO.out.drew').mono ?_
      rintro e w3 ⟨rfl, hb3⟩
      have HB3 := Lib.hid hb3
      clear hb3
      rw [HEE.out]
      refine hK.out _ _ (HKEEP.out _ _ hHeld HB3.out) (fun hHeld => ?_)
      clear hK K
      try simp only [Act.put, List.setIfInBounds_toArray, List.set_cons_zero, List.set_cons_succ]
      refine wpAnyH_take (i := 9) (oi := { dst := some 44, op := Op.unOp UnOp.not 4 (Operand.tmp 43), type := 4, pos := "law.go:59", after := #[{ on := 8, ground := Ground.data }], guard := none }) (v := ?_) rfl (by kernel_rfl) (by kernel_rfl) (by kernel_rfl) (fun _ _ _ h => h) (Or.inl ⟨by rfl, ?_⟩) hHeld ?_
      rotate_left 1
      · intro wz hSw
        try dsimp only at hSw
        go_simp
        try with_reducible rfl
      try simp only [Act.put, List.setIfInBounds_toArray, List.set_cons_zero, List.set_cons_succ]
      refine wpAnyH_done (by kernel_rfl) ?_ _
      refine NoPanic.normal ?_
      have hq3 : Chg (wb (hs.take (i + 1))) w1 w3 := (HC.out.mono (wb_take_succ hil)).trans (Chg.below ((Below.refl _ wo).drew.trans HB3.out) []) (fun _ h => by cases h)
      have hro3 : RowOk w3 x.A x.e.val.length := fun hl => by
        obtain ⟨g, cur, e1, e2, e3⟩ := HXE.out.rowOk hl
        exact ⟨g, cur, e1, (HB3.out.block g (show Blk wo g 5 cur from e2).lt).trans e2, e3⟩
      have hdr3 : w3.cell? ⟨bA, oA + i * 6 + 2, none⟩ = some (.slice x.A x.e.val.length x.c) := (HKEEP.out _ _ HS.out HB3.out).2.2.1
      have hbA2 : Hid (w.heap.size ≤ bA) := Lib.hid (HOW.out.lt bA rfl).1
      have hgx : Hid (∀ g : Nat, x.A = some ⟨g, 0, none⟩ → g ∈ wb (hs.take (i + 1)) ∧ g < w.heap.size) := Lib.hid fun g hg => by
        rw [HNX.out] at hg
        have h1 := wb_take_last hil hg
        exact ⟨h1, (hold.out g (wb_take_mem h1)).2⟩
      have hvl : x.e.val.length ≤ 65536 := HXE.out.2.2
      generalize hXA : x.A = XA at *
      generalize hXN : x.e.val.length = len at *
      clear hXA hXN hHeld
      have HQ3 := Lib.hid hq3
      have HRO3 := Lib.hid hro3
      have HDR3 := Lib.hid hdr3
      clear hq3 hro3 hdr3
      go_wp2
      go_loopw [12] (fun x12 wi => ∃ q : Nat, q ≤ len ∧ x12 = .int .i64 q ∧ Chg (wb (hs.take (i + 1))) w1 wi ∧ RowOk wi XA len ∧ wi.cell? ⟨bA, oA + i * 6 + 2, none⟩ = some (.slice XA len x.c)) (fun x12 _ => len - (intOf x12).toNat)
      case atStart => exact ⟨0, Nat.zero_le _, rfl, HQ3.out, HRO3.out, HDR3.out⟩
      case round =>
        obtain ⟨q, hq, rfl, hcq, hro, hdr⟩ := hrel
        have HCQ := Lib.hid hcq
        have HRO := Lib.hid hro
        clear hcq hro
        by_cases hql : q < len
        · obtain ⟨g, cur, rfl, hh, hz⟩ := HRO.out (by omega)
          obtain ⟨z, hz⟩ := hz q hql
          have hbk : Blk wr g 5 cur := hh
          have cz := (hbk.cell q).trans hz
          have fz := hbk.frozen q
          have hq0 : (0 : Int) ≤ (q : Int) := Int.natCast_nonneg _
          have hq1 : (q : Int) < (len : Int) := by omega
          have HG := Lib.hid (hgx.out g rfl)
          have HDR := Lib.hid hdr
          clear hh hz hbk
          go_wp2
          go_roundw
          case rel =>
            refine ⟨q + 1, by omega, by go_num, HCQ.out.setCell (Or.inl HG.out.1) _, HRO.out.set, ?_⟩
            rw [cell_far (by show bA ≠ g; have := HG.out.2; have := hbA2.out; omega)]
            exact HDR.out
          case measure => simp [intOf]; omega
        · have hd : decide ((q : Int) < (len : Int)) = false := by simp; omega
          go_wp2
          go_roundw
          case rel => exact ⟨i + 1, by omega, by go_num, HCQ.out⟩
          case measure => simp [intOf]; omega
    · have hd : decide ((i : Int) < (k : Int)) = false := by simp; omega
      have hik : i = k := by omega
      have HF := Lib.hid (hfin.out wo (by have h1 := HC.out; rw [List.take_of_length_le (by rw [hlen.out]; omega)] at h1; exact h1))
      clear hik
      go_wp2
      go_ret
      exact ⟨rfl, t, HF.out, HRL.out, HWT.out, HLO.out⟩
end Go.Proofs.Ytfimgkjdfjlkhaa
