/- 'Take' of a hub that is there. -/
import Derived.Test.YtfimgkjdfjlkhaaMg
namespace Go.Proofs.Ytfimgkjdfjlkhaa
open Go.RowKit Go.Deep Go.Maps

theorem HubTo.past {w w1 w2 : World} {base hb n' : Nat} {m m' : Option Nat} {l l' : List Sl} {O : List Nat} (h : HubTo w w1 base hb m l m' n' l') (hc : Chg O w1 w2) (hO : ∀ k ∈ O, w.heap.size ≤ k ∧ k ∉ hubO hb m' l' ∧ NoRow w1 k) :
    HubTo w w2 base hb m l m' n' l' where
  hub := h.hub.chg hc (fun k hk => (hO k hk).2.1) (fun k hk => (hO k hk).2.2)
  chg := h.chg.trans hc (fun k hk => Or.inr (hO k hk).1)
  own := h.own
  vals := h.vals
theorem wb_cons_sub (h : Hv) (rest : List Hv) : (wb rest).Sublist (wb (h :: rest)) := (List.sublist_cons_self h rest).filterMap _
theorem EvOwn.hub {w w1 : World} {base hb n : Nat} {m : Option Nat} {l : List Sl} {x : Hv} (h : HubAt w base hb m n l) (hc : Chg (hubO hb m l) w w1) (hx : EvOwn w base x) : EvOwn w1 base x :=
  ⟨own_same hx.1 (fun k hk => hc.block k (hx.1.lt k hk).2 (fun e => by
    obtain ⟨cs, hh⟩ := own_row hx.1 hk
    exact (h.noRow k e cs).1 hh)), hx.2⟩
theorem Chg.of_row {w w1 : World} {r : Option Nat} (h : w.grownBy w1 r) : Chg r.toList w w1 := ⟨h.os, h.tape, h.output, h.size, fun k hk hn => h.block k hk (fun e => hn (by rw [← e]; simp))⟩
theorem cells_one (h : Hv) : ∀ u ∈ h.cells, u.oneCell' = true := by
  intro u hu
  simp only [Hv.cells, List.mem_cons, List.not_mem_nil, or_false] at hu
  rcases hu with rfl | rfl | rfl | rfl | rfl | rfl <;> rfl
theorem HubTo.rowed {w w1 w2 : World} {base hb n' : Nat} {m m' : Option Nat} {l l' : List Sl} {v : Value} {j : Nat} {xs : List Value} (h : HubTo w w1 base hb m l m' n' l') (hown : w1.ownsRow w.heap.size 30 6 v j xs) (hg : w1.grownBy w2 v.ownBlock)
    (hd : ∀ k ∈ hubO hb m' l', k < w.heap.size) : HubTo w w2 base hb m l m' n' l' :=
  h.past (Chg.of_row hg) (fun k hk => by
    rw [Option.mem_toList] at hk
    have h1 := hown.lt k hk
    refine ⟨h1.1, fun e => by have := hd k e; omega, ?_⟩
    obtain ⟨cs, hh⟩ := own_row hown hk
    exact NoRow.blk (show Blk w1 k 30 cs from hh) (by decide) (by decide))
set_option maxHeartbeats 1000000 in
theorem took_bad (w : World) (hb : Nat) (k mx : Int) (h : mx < 0) :
    Calls Try.prog 19 #[.pointer (some ⟨hb, 0, none⟩), .int .i64 k, .int .i64 mx] w fun e w' => e = .returned (.tuple #[.slice none 0 0, .int .i64 2]) ∧ w = w' := by
  go_enter Try.func19, Try.ntmps19
  go_wp2
  go_ret2
  exact ⟨rfl, rfl⟩
set_option maxHeartbeats 1000000 in
theorem took_no (w : World) (base hb n : Nat) (m : Option Nat) (l : List Sl) (k mx : Int) (h : HubAt w base hb m n l) (hk : (ilit k).wf = true) (hs : ∀ s ∈ l, s.id ≠ k) (hm : 0 ≤ mx) :
    Calls Try.prog 19 #[.pointer (some ⟨hb, 0, none⟩), .int .i64 k, .int .i64 mx] w fun e w' => e = .returned (.tuple #[.slice none 0 0, .int .i64 9]) ∧ w = w' := by
  have HF := Lib.hid (find_no w base hb n m l k h hk hs)
  have hd : decide (mx < 0) = false := by simp; omega
  clear h hs hk
  go_enter Try.func19, Try.ntmps19
  go_wp2_with fail
  refine HF.out.mono ?_
  rintro e w' ⟨rfl, rfl⟩
  go_wp2
  go_ret2
  exact ⟨rfl, rfl⟩
/-- What 'Take' of the first k events makes. -/
def tookTo (w : World) (base hb n : Nat) (m : Option Nat) (a b : List Sl) (s : Sl) (k : Nat) (e : Ending) (w' : World) : Prop :=
  ∃ (A : Option Addr) (c : Nat) (t : Wt), e = .returned (.tuple #[.slice A k c, .int .i64 0]) ∧ HubTo w w' base hb m (a ++ s :: b) m n (a ++ s.with_ t :: b) ∧ t.rl = s.t.rl ∧ t.wait = s.t.wait.drop k ∧ t.lost = s.t.lost ∧
    w'.ownsRow w.heap.size 30 6 (.slice A k c) k (ecells (s.t.wait.take k))
def midTook (w : World) (base hb n : Nat) (m : Option Nat) (a b : List Sl) (s : Sl) (mx j : Nat) (x : Value) (wr : World) : Prop :=
  ∃ (A : Option Addr) (c : Nat) (t : Wt), j ≤ mx ∧ j ≤ s.t.wait.length ∧ x = .slice A j c ∧ HubTo w wr base hb m (a ++ s :: b) m n (a ++ s.with_ t :: b) ∧ t.rl = s.t.rl ∧ t.wait = s.t.wait.drop j ∧ t.lost = s.t.lost ∧ t.rg = s.t.rg ∧ t.rn = s.t.rn ∧
    wr.ownsRow w.heap.size 30 6 (.slice A j c) j (ecells (s.t.wait.take j))
set_option maxRecDepth 100000 in
set_option maxHeartbeats 2000000 in
theorem took_any (w : World) (base hb n : Nat) (m : Option Nat) (a b : List Sl) (s : Sl) (mx : Nat) (h : HubAt w base hb m n (a ++ s :: b)) (hbase : base ≤ w.heap.size) :
    Calls Try.prog 19 #[.pointer (some ⟨hb, 0, none⟩), .int .i64 s.id, .int .i64 mx] w (tookTo w base hb n m a b s (min mx s.t.wait.length)) := by
  have hs : s ∈ a ++ s :: b := by simp
  have HF := Lib.hid (find_yes w base hb n m _ s h hs)
  have HS := Lib.hid (h.wts s hs)
  have HH := Lib.hid h
  have hd : decide ((mx : Int) < 0) = false := by simp
  have hwl : s.t.wait.length ≤ 1000 := by have := HS.out.1.many; have := HS.out.1.room; have := HS.out.1.room2; omega
  clear h hs
  go_enter Try.func19, Try.ntmps19
  go_wp2_with fail
  refine HF.out.mono ?_
  rintro e w' ⟨rfl, rfl⟩
  go_wp2
  go_loopw [10] (fun x wr => ∃ j : Nat, midTook w base hb n m a b s mx j x wr) (fun x _ => 2000 - (match x with | .slice _ j _ => j | _ => 0))
  case atStart => exact ⟨0, none, 0, s.t, Nat.zero_le _, Nat.zero_le _, rfl, HubTo.of_below HH.out (Below.refl _ _), rfl, rfl, rfl, rfl, rfl, World.ownsRow_nil _ _ _ _⟩
  case round =>
    obtain ⟨j, A, c, t, hj1, hj2, rfl, ht, hrl, hw, hlost, hrg, hrn, hown⟩ := hrel
    have hsw := ht.hub.wts (s.with_ t) (by simp)
    have c6 := hsw.1.blk.cell 6
    unfold Wt.cells at c6
    simp only [List.getElem?_toArray, List.getElem?_cons_zero, List.getElem?_cons_succ, Sl.with_] at c6
    have hql : Hid (t.wait.length = s.t.wait.length - j) := Lib.hid (by rw [hw]; simp)
    generalize hq : t.wait.length = q at *
    have HT := Lib.hid ht
    have HOW := Lib.hid hown
    have HW := Lib.hid hw
    have HSW := Lib.hid hsw
    have HRL := Lib.hid hrl
    have HLO := Lib.hid hlost
    have HRG := Lib.hid hrg
    have HRN := Lib.hid hrn
    have HQ := Lib.hid hq
    clear ht hown hw hsw hrl hlost hrg hrn hq
    by_cases hmore : j < s.t.wait.length ∧ j < mx
    · have hd1 : (0 : Int) < (q : Int) := by have := hql.out; omega
      have hd2 : (j : Int) < (mx : Int) := by omega
      obtain ⟨h', rest, hwt⟩ : ∃ h' rest, t.wait = h' :: rest := by
        cases e : t.wait with
        | nil => have := HQ.out; rw [e] at this; simp at this; have := hql.out; omega
        | cons h' rest => exact ⟨h', rest, rfl⟩
      have HTK := Lib.hid (take_any wr base s.g t h' rest HSW.out.1 hwt)
      go_wp2_with fail
      refine HTK.out.mono ?_
      rintro e w2 ⟨rfl, hwt2, hc2⟩
      simp only [Hv.v]
      have hslot := HubAt.slot (s := s.with_ t) HT.out.hub (t.taken rest) hc2 hwt2 (Nat.le_trans hbase HT.out.chg.size) (Or.inl rfl) HSW.out.2.2.2.2 (VTo.sub (by show (wb rest).Sublist (wb t.wait); rw [hwt]; exact wb_cons_sub _ _))
      have HT2 := Lib.hid (HT.out.trans hslot)
      have hlt : ∀ k ∈ hubO hb m (a ++ s.with_ (t.taken rest) :: b), k < w.heap.size := fun k hk => by
        have hin : k ∈ hubO hb m (a ++ s :: b) := by
          rw [mem_hubO] at hk ⊢
          rcases hk with e | e | ⟨x, hx, e⟩
          · exact Or.inl e
          · exact Or.inr (Or.inl e)
          · rcases List.mem_append.1 hx with hx | hx
            · exact Or.inr (Or.inr ⟨x, List.mem_append_left _ hx, e⟩)
            · rcases List.mem_cons.1 hx with rfl | hx
              · refine Or.inr (Or.inr ⟨s, by simp, ?_⟩)
                rcases e with e | e
                · exact Or.inl e
                · exact Or.inr (e.trans HRG.out)
              · exact Or.inr (Or.inr ⟨x, List.mem_append_right _ (List.mem_cons_of_mem _ hx), e⟩)
        exact HH.out.lt k hin
      have hown2 : w2.ownsRow w.heap.size 30 6 (.slice A j c) j (ecells (s.t.wait.take j)) := own_same HOW.out (fun k hk => hc2.block k (HOW.out.lt k hk).2 (fun e => by
        have h1 := (HOW.out.lt k hk).1
        simp only [List.mem_cons, List.not_mem_nil, or_false] at e
        have h2 := HS.out.1.blk.lt
        have h3 := HS.out.2.2.2.1
        have h4 := HRG.out
        rcases e with e | e <;> omega))
      have hle2 : w.heap.size ≤ w2.heap.size := HT2.out.chg.size
      have HOW2 := Lib.hid hown2
      have HLT := Lib.hid hlt
      have HWT := Lib.hid hwt
      clear hslot hown2 hlt hwt hwt2 hc2
      go_wp2_with (first
        | (at_builtin; (refine wpList_app1 w2 rfl (.tmp 37) (.tmp 40) 38 rfl w.heap.size 30 6 72 _ info30 Try.underlying38 rfl (by omega) _ j _ h'.cells rfl HOW2.out rfl (cells_one h') rfl (by unfold maxLen; omega) (by omega) hle2 ?_); intro v' w3 hown3 hg3))
      obtain ⟨A', c', rfl, _⟩ := own_shape hown3
      have hT3 := HT2.out.rowed HOW2.out hg3 HLT.out
      have HT3 := Lib.hid hT3
      have HO3 := Lib.hid hown3
      clear hown3 hg3 hT3
      go_roundw
      case rel =>
        have e1 : s.t.wait.drop j = h' :: rest := by rw [← HW.out]; exact HWT.out
        have e2 : s.t.wait[j]? = some h' := by
          have := List.getElem?_drop (xs := s.t.wait) (i := j) (j := 0)
          rw [e1] at this
          simpa using this.symm
        have e3 : rest = s.t.wait.drop (j + 1) := by
          have : (s.t.wait.drop j).drop 1 = s.t.wait.drop (j + 1) := by rw [List.drop_drop]
          rw [← this, e1]; rfl
        refine ⟨j + 1, A', c', t.taken rest, by omega, by omega, rfl, HT3.out, HRL.out, e3, HLO.out, HRG.out, HRN.out, ?_⟩
        have : ecells (s.t.wait.take (j + 1)) = ecells (s.t.wait.take j) ++ h'.cells := by
          rw [List.take_add_one, e2, ecells_app]
          simp [ecells]
        rw [this]
        exact HO3.out
      case measure => simp; omega
    · have hjm : Hid (j = min mx s.t.wait.length) := Lib.hid (by omega)
      have hq := hql.out
      by_cases hq0 : q = 0
      · subst hq0
        clear hq
        go_wp2
        go_ret2
        rw [← hjm.out]
        exact ⟨A, c, t, rfl, HT.out, HRL.out, HW.out, HLO.out, HOW.out⟩
      · have hd1 : (0 : Int) < (q : Int) := by have := hql.out; omega
        have hd2 : decide ((j : Int) < (mx : Int)) = false := by simp; omega
        go_wp2
        go_ret2
        rw [← hjm.out]
        exact ⟨A, c, t, rfl, HT.out, HRL.out, HW.out, HLO.out, HOW.out⟩
end Go.Proofs.Ytfimgkjdfjlkhaa
