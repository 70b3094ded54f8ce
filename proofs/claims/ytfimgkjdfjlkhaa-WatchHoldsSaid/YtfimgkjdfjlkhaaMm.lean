/- 'Publish' that answers with an error. -/
import Derived.Test.YtfimgkjdfjlkhaaMl
namespace Go.Proofs.Ytfimgkjdfjlkhaa
open Go.RowKit Go.Deep Go.Maps

set_option maxHeartbeats 1000000 in
theorem pub_bad (w : World) (hb : Nat) (hs : List Hv) (A : Option Addr) (k c : Nat) (hev : EvsAt w w.heap.size A k hs) (hk : k ≤ 1000000) (hbad : badB hs = true) :
    Calls Try.prog 13 #[.pointer (some ⟨hb, 0, none⟩), .slice A k c] w fun e w' => e = .returned (.tuple #[.int .i64 0, .int .i64 2]) ∧ Below w.heap.size w w' := by
  have HBAD := Lib.hid (badAny_any A k c hs w hev hk)
  rw [hbad] at HBAD
  clear hev hbad
  go_enter Try.func13, Try.ntmps13
  go_wp2_with fail
  refine HBAD.out.mono ?_
  rintro e w1 ⟨rfl, hb1⟩
  go_wp2
  go_ret2
  exact ⟨rfl, hb1⟩
set_option maxHeartbeats 1000000 in
theorem pub_long (w : World) (hb : Nat) (hs : List Hv) (A : Option Addr) (k c : Nat) (hev : EvsAt w w.heap.size A k hs) (hk : k ≤ 1000000) (hbad : badB hs = false) (hl : 4096 < k) :
    Calls Try.prog 13 #[.pointer (some ⟨hb, 0, none⟩), .slice A k c] w fun e w' => e = .returned (.tuple #[.int .i64 0, .int .i64 5]) ∧ Below w.heap.size w w' := by
  have HBAD := Lib.hid (badAny_any A k c hs w hev hk)
  rw [hbad] at HBAD
  have hl1 : (4096 : Int) < (k : Int) := by omega
  clear hev hbad
  go_enter Try.func13, Try.ntmps13
  go_wp2_with fail
  refine HBAD.out.mono ?_
  rintro e w1 ⟨rfl, hb1⟩
  go_wp2
  go_ret2
  exact ⟨rfl, hb1⟩
/-- A range over a nil map. -/
theorem rangeNil (w : World) : (Instr.range 34 (.map none)).run Try.prog w = .ok (.pointer (some ⟨w.heap.size, 0, none⟩)) (w.alloc (.mapIter none 0 #[] 0)) := run_range_nilMap w 34 3 74 Try.underlying34
set_option maxRecDepth 100000 in
set_option maxHeartbeats 4000000 in
theorem pub_none (w : World) (base hb n : Nat) (hs : List Hv) (A : Option Addr) (k c : Nat) (h : HubAt w base hb none n []) (hev : EvsAt w w.heap.size A k hs) (hk : k ≤ 4096) (hbad : badB hs = false) :
    Calls Try.prog 13 #[.pointer (some ⟨hb, 0, none⟩), .slice A k c] w fun e w' => e = .returned (.tuple #[.int .i64 0, .int .i64 0]) ∧ Below w.heap.size w w' := by
  have HBAD := Lib.hid (badAny_any A k c hs w hev (by omega))
  rw [hbad] at HBAD
  have HH := Lib.hid h
  have HEV := Lib.hid hev
  have HHL := Lib.hid hev.len
  have hk1 : decide ((4096 : Int) < (k : Int)) = false := by simp; omega
  have hlt0 : (k : Int) ≤ 4096 := by omega
  clear h hev hbad
  go_enter Try.func13, Try.ntmps13
  go_wp2_with fail
  refine HBAD.out.mono ?_
  rintro e w1 ⟨rfl, hb1⟩
  have HB1 := Lib.hid hb1
  clear hb1
  go_wp2
  go_loopw [6, 8, 10, 23] (fun x6 _ _ x23 wr => ∃ j : Nat, j ≤ k ∧ x23 = .int .i64 j ∧ x6 = .int .i64 0 ∧ Below w.heap.size w wr) (fun _ _ _ x23 _ => k - (intOf x23).toNat)
  case atStart => exact ⟨0, Nat.zero_le _, rfl, rfl, HB1.out⟩
  case round =>
    obtain ⟨j, hj, rfl, rfl, hb⟩ := hrel
    obtain ⟨wo, hwo⟩ : ∃ x, x = wr := ⟨wr, rfl⟩
    subst hwo
    have HB := Lib.hid hb
    clear hb
    by_cases hlt : j < k
    · obtain ⟨bA, oA, rfl, hbw, c0, c1, c2, c3, c4, c5⟩ := (HEV.out.below HB.out).at_ hlt
      have hj0 : (0 : Int) ≤ (j : Int) := Int.natCast_nonneg _
      have hj1 : (j : Int) < (k : Int) := by omega
      have hh := HH.out.below HB.out
      have m0 := hh.blk.cell 0
      simp only [List.getElem?_toArray, List.getElem?_cons_zero] at m0
      have lt0 := hh.blk.lt
      have ne0 := World.new_ne wo _ m0
      have hrn := rangeNil
      generalize hnth hs j = h at *
      clear hh
      go_wp2
      have hnx : ∀ ty, (Instr.next (.pointer (some ⟨wo.heap.size + 1, 0, none⟩)) false ty).run Try.prog ((wo.alloc (.cells #[.int .i64 h.e.kind, .string h.e.key, .slice h.A h.e.val.length h.c, .int .u64 h.e.birth, .int .u64 h.e.due, .int .u64 h.e.at_] 30)).alloc (.mapIter none 0 #[] 0)) = .ok (.tuple #[.bool false]) ((wo.alloc (.cells #[.int .i64 h.e.kind, .string h.e.key, .slice h.A h.e.val.length h.c, .int .u64 h.e.birth, .int .u64 h.e.due, .int .u64 h.e.at_] 30)).alloc (.mapIter none 0 #[] 0)) := fun ty => by
        have := run_next_nilMap (P := Try.prog) (wo.alloc (.cells #[.int .i64 h.e.kind, .string h.e.key, .slice h.A h.e.val.length h.c, .int .u64 h.e.birth, .int .u64 h.e.due, .int .u64 h.e.at_] 30)) ty 0 0 #[]
        rwa [World.size_alloc] at this
      have HB2 := Lib.hid ((HB.out.alloc HB.out.size (.cells #[.int .i64 h.e.kind, .string h.e.key, .slice h.A h.e.val.length h.c, .int .u64 h.e.birth, .int .u64 h.e.due, .int .u64 h.e.at_] 30)).alloc (by have := HB.out.size; simp; omega) (.mapIter none 0 #[] 0))
      go_loopw [6, 10] (fun x6 _ wi => x6 = .int .i64 0 ∧ wi = (wo.alloc (.cells #[.int .i64 h.e.kind, .string h.e.key, .slice h.A h.e.val.length h.c, .int .u64 h.e.birth, .int .u64 h.e.due, .int .u64 h.e.at_] 30)).alloc (.mapIter none 0 #[] 0)) (fun _ _ _ => 0)
      case atStart => exact ⟨rfl, rfl⟩
      case round =>
        obtain ⟨rfl, rfl⟩ := hrel
        go_wp2
        go_roundw
        case rel => exact ⟨j + 1, by omega, by go_num, rfl, HB2.out⟩
        case measure => simp [intOf]; omega
    · have hd : decide ((j : Int) < (k : Int)) = false := by simp; omega
      go_wp2
      go_ret2
      exact ⟨rfl, HB.out⟩
/-- What 'Publish' answers, and what it makes of the hub. -/
def published (w : World) (base hb n : Nat) (m : Option Nat) (l : List Sl) (hs : List Hv) (e : Ending) (w' : World) : Prop :=
  (badB hs = true ∧ e = .returned (.tuple #[.int .i64 0, .int .i64 2]) ∧ Below w.heap.size w w') ∨
  (badB hs = false ∧ 4096 < hs.length ∧ e = .returned (.tuple #[.int .i64 0, .int .i64 5]) ∧ Below w.heap.size w w') ∨
  (badB hs = false ∧ hs.length ≤ 4096 ∧ pubTo w base hb n m l hs e w')
theorem pub_any (w : World) (base hb n : Nat) (m : Option Nat) (l : List Sl) (hs : List Hv) (A : Option Addr) (k c : Nat) (h : HubAt w base hb m n l) (hev : EvsAt w w.heap.size A k hs) (hk : k ≤ 1000000) (hlen : ∀ x ∈ hs, x.e.val.length ≤ 65536)
    (hbase : base ≤ w.heap.size) (hlost : ∀ s ∈ l, s.t.lost + k ≤ 1000000000) (hkl : ∀ s ∈ l, s.t.rl.kinds.length ≤ 1000000) (hs1 : 0 < k → ∀ a, A = some a → a.block ∉ hubO hb m l) (hs2 : ∀ x ∈ hs, 0 < x.e.val.length → ∀ a, x.A = some a → a.block < w.heap.size ∧ a.block ∉ hubO hb m l) :
    Calls Try.prog 13 #[.pointer (some ⟨hb, 0, none⟩), .slice A k c] w (published w base hb n m l hs) := by
  have hl := hev.len
  cases hb' : badB hs with
  | true => exact (pub_bad w hb hs A k c hev hk hb').mono fun e w' h => Or.inl ⟨hb', h⟩
  | false =>
    by_cases hL : 4096 < k
    · exact (pub_long w hb hs A k c hev hk hb' hL).mono fun e w' h => Or.inr (Or.inl ⟨hb', by omega, h⟩)
    · cases m with
      | some b => exact (pub_some w base hb n b l hs A k c h hev (by omega) hb' hlen hbase hlost hkl hs1 hs2).mono fun e w' h => Or.inr (Or.inr ⟨hb', by omega, h⟩)
      | none =>
        have := h.nomap rfl
        subst this
        refine (pub_none w base hb n hs A k c h hev (by omega) hb').mono fun e w' h' => Or.inr (Or.inr ⟨hb', by omega, [], ?_, HubTo.of_below h h'.2, trivial⟩)
        rw [h'.1]; rfl
end Go.Proofs.Ytfimgkjdfjlkhaa
