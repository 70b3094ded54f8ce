/- 'adds' in two plain forms; the examples' rules and events. -/
import Derived.Test.YtfimgkjdfjlkhaaMq
namespace Go.Proofs.Ytfimgkjdfjlkhaa
open Go.RowKit Go.Deep Go.Maps

theorem IsFree.eq {l : List Sl} {k k' : Nat} (h : IsFree l k) (h' : IsFree l k') : k = k' := by
  rcases Nat.lt_trichotomy k k' with e | e | e
  · obtain ⟨s, hs, e2⟩ := h'.2 k e
    exact absurd e2 (h.1 s hs)
  · exact e
  · obtain ⟨s, hs, e2⟩ := h.2 k' e
    exact absurd e2 (h'.1 s hs)
theorem ret_true {a : Bool} (h : a = true) : Ending.returned (.bool a) = .returned (.bool true) := by rw [h]
theorem adds_new (w : World) (base hb n : Nat) (m : Option Nat) (l : List Sl) (r : Ri) (k0 : Nat) (h : HubAt w base hb m n l) (hk : KindsAt w r) (hn : r.kinds.length ≤ 1000000) (hbase : base ≤ w.heap.size) (hnn : n ≤ 1000000)
    (h0 : r.kA = none → r.kinds.length = 0 ∧ r.kc = 0) (hap : 0 < r.kinds.length → ∀ a, r.kA = some a → a.block ≠ hb) (hv : validRi r = true) (hl : l.length < 64) (hf : IsFree l k0) :
    Calls Try.prog 11 #[.pointer (some ⟨hb, 0, none⟩), r.v, .int .i64 k0, .int .i64 0] w fun e w' => e = .returned (.bool true) ∧ ∃ (b g c n' : Nat) (A : Option Addr), HubTo w w' base hb m l (some b) n' (l ++ [newSl k0 g r A c]) ∧ n' ≤ n + 1 := by
  refine (adds_any w base hb n m l r k0 0 h hk hn hbase hnn h0 hap).mono fun e w' ⟨k, q, he, ha⟩ => ?_
  rcases ha with ⟨a, _⟩ | ⟨_, a, _⟩ | ⟨_, _, k1, b, g, c, n', A, h1, h2, _, h4, h5⟩
  · rw [hv] at a; cases a
  · omega
  · have e2 := h2.eq hf
    subst e2
    simp only [Ending.returned.injEq, Value.tuple.injEq, Array.mk.injEq, List.cons.injEq, Value.int.injEq, true_and, and_true] at h1
    refine ⟨he.trans (ret_true (by rw [h1.1, h1.2]; simp)), b, g, c, n', A, h4, h5⟩
theorem adds_no (w : World) (base hb n : Nat) (m : Option Nat) (l : List Sl) (r : Ri) (h : HubAt w base hb m n l) (hk : KindsAt w r) (hn : r.kinds.length ≤ 1000000) (hbase : base ≤ w.heap.size) (hnn : n ≤ 1000000)
    (h0 : r.kA = none → r.kinds.length = 0 ∧ r.kc = 0) (hap : 0 < r.kinds.length → ∀ a, r.kA = some a → a.block ≠ hb) (hv : validRi r = false) :
    Calls Try.prog 11 #[.pointer (some ⟨hb, 0, none⟩), r.v, .int .i64 0, .int .i64 2] w fun e w' => e = .returned (.bool true) ∧ Below w.heap.size w w' := by
  refine (adds_any w base hb n m l r 0 2 h hk hn hbase hnn h0 hap).mono fun e w' ⟨k, q, he, ha⟩ => ?_
  rcases ha with ⟨_, h1, h2⟩ | ⟨a, _⟩ | ⟨a, _⟩
  · simp only [Ending.returned.injEq, Value.tuple.injEq, Array.mk.injEq, List.cons.injEq, Value.int.injEq, true_and, and_true] at h1
    exact ⟨he.trans (ret_true (by rw [h1.1, h1.2]; simp)), h2⟩
  · rw [hv] at a; cases a
  · rw [hv] at a; cases a
theorem adds_full (w : World) (base hb n : Nat) (m : Option Nat) (l : List Sl) (r : Ri) (h : HubAt w base hb m n l) (hk : KindsAt w r) (hn : r.kinds.length ≤ 1000000) (hbase : base ≤ w.heap.size) (hnn : n ≤ 1000000)
    (h0 : r.kA = none → r.kinds.length = 0 ∧ r.kc = 0) (hap : 0 < r.kinds.length → ∀ a, r.kA = some a → a.block ≠ hb) (hv : validRi r = true) (hl : 64 ≤ l.length) :
    Calls Try.prog 11 #[.pointer (some ⟨hb, 0, none⟩), r.v, .int .i64 0, .int .i64 7] w fun e w' => e = .returned (.bool true) ∧ Below w.heap.size w w' := by
  refine (adds_any w base hb n m l r 0 7 h hk hn hbase hnn h0 hap).mono fun e w' ⟨k, q, he, ha⟩ => ?_
  rcases ha with ⟨a, _⟩ | ⟨_, _, h1, h2⟩ | ⟨_, a, _⟩
  · rw [hv] at a; cases a
  · simp only [Ending.returned.injEq, Value.tuple.injEq, Array.mk.injEq, List.cons.injEq, Value.int.injEq, true_and, and_true] at h1
    exact ⟨he.trans (ret_true (by rw [h1.1, h1.2]; simp)), h2⟩
  · omega
def bA : ByteArray := ⟨#[97]⟩
def bB : ByteArray := ⟨#[98]⟩
def bC : ByteArray := ⟨#[99]⟩
def bAB : ByteArray := ⟨#[97, 98]⟩
def bAC : ByteArray := ⟨#[97, 99]⟩
def evOf (key : ByteArray) (kd : Int) : Ev := ⟨kd, key, bytesOf key, 1, 18446744073709551615, 0⟩
def evEx (key : ByteArray) : Ev := ⟨1, key, bytesOf key, 2, 5, 5⟩
def kEvs : List Ev := [evOf bAB 4, evEx bB, evEx bA, evOf bAC 4, evOf bC 4]
/-- The rules of the examples. -/
def kR0 : Ri := ⟨bA, [], 2, false, none, 0⟩
def kR1 (A : Option Addr) : Ri := ⟨⟨#[]⟩, [4], 1, true, A, 1⟩
def kRl0 (A : Option Addr) (c : Nat) : Rl := ⟨bA, [], 2, false, A, c⟩
def kRl1 (A : Option Addr) (c : Nat) : Rl := ⟨⟨#[]⟩, [4], 1, true, A, c⟩
theorem pre_eq (s p : ByteArray) : pre s p = (decide (p.size ≤ s.size) && (((s.data.toList.drop 0).take (p.size - 0)) == p.data.toList)) := by
  unfold pre
  rw [Lib.extract_toList, ByteArray.toList_eq]
theorem fits_eq (r : Ri) (e : Ev) : r.fits e = ((decide (r.pre.size ≤ e.key.size) && (((e.key.data.toList.drop 0).take (r.pre.size - 0)) == r.pre.data.toList)) && (decide (r.kinds.length = 0) || memB r.kinds e.kind)) := by
  unfold Ri.fits fitsB
  rw [pre_eq]
theorem k_fit00 (A : Option Addr) (c : Nat) : (kRl0 A c).toRi.fits (evOf bAB 4) = true := by rw [fits_eq]; rfl
theorem k_fit01 (A : Option Addr) (c : Nat) : (kRl0 A c).toRi.fits (evEx bB) = false := by rw [fits_eq]; rfl
theorem k_fit02 (A : Option Addr) (c : Nat) : (kRl0 A c).toRi.fits (evEx bA) = true := by rw [fits_eq]; rfl
theorem k_fit03 (A : Option Addr) (c : Nat) : (kRl0 A c).toRi.fits (evOf bAC 4) = true := by rw [fits_eq]; rfl
theorem k_fit04 (A : Option Addr) (c : Nat) : (kRl0 A c).toRi.fits (evOf bC 4) = false := by rw [fits_eq]; rfl
theorem k_fit10 (A : Option Addr) (c : Nat) : (kRl1 A c).toRi.fits (evOf bAB 4) = true := by rw [fits_eq]; rfl
theorem k_fit11 (A : Option Addr) (c : Nat) : (kRl1 A c).toRi.fits (evEx bB) = false := by rw [fits_eq]; rfl
theorem k_fit12 (A : Option Addr) (c : Nat) : (kRl1 A c).toRi.fits (evEx bA) = false := by rw [fits_eq]; rfl
theorem k_fit13 (A : Option Addr) (c : Nat) : (kRl1 A c).toRi.fits (evOf bAC 4) = true := by rw [fits_eq]; rfl
theorem k_fit14 (A : Option Addr) (c : Nat) : (kRl1 A c).toRi.fits (evOf bC 4) = true := by rw [fits_eq]; rfl
theorem k_pubs0 (A : Option Addr) (c : Nat) : pubs ⟨kRl0 A c, [], 0⟩ kEvs = (⟨kRl0 A c, [evOf bAB 4, evEx bA], 1⟩, 2) := by
  have h0 := k_fit00 A c
  have h1 := k_fit01 A c
  have h2 := k_fit02 A c
  have h3 := k_fit03 A c
  have h4 := k_fit04 A c
  have hr : (kRl0 A c).room = 2 := rfl
  have ho : (kRl0 A c).oldest = false := rfl
  generalize kRl0 A c = r at *
  simp [kEvs, pubs, pub1, put1, h0, h1, h2, h3, h4, hr, ho]
theorem k_pubs1 (A : Option Addr) (c : Nat) : pubs ⟨kRl1 A c, [], 0⟩ kEvs = (⟨kRl1 A c, [evOf bC 4], 2⟩, 3) := by
  have h0 := k_fit10 A c
  have h1 := k_fit11 A c
  have h2 := k_fit12 A c
  have h3 := k_fit13 A c
  have h4 := k_fit14 A c
  have hr : (kRl1 A c).room = 1 := rfl
  have ho : (kRl1 A c).oldest = true := rfl
  generalize kRl1 A c = r at *
  simp [kEvs, pubs, pub1, put1, h0, h1, h2, h3, h4, hr, ho]
theorem k_valid0 : validRi kR0 = true := by decide +kernel
theorem k_valid1 (A : Option Addr) : validRi (kR1 A) = true := by
  have : kindsOk (kR1 A).kinds = true := by show kindsOk [4] = true; decide +kernel
  unfold validRi
  rw [this]
  rfl
theorem k_evsOk (hs : List Hv) (h : evs hs = kEvs) : badB hs = false := by
  have h1 : badB hs = (evs hs).any fun e => !validE e := by unfold badB evs; rw [List.any_map]; rfl
  rw [h1, h]
  decide +kernel
end Go.Proofs.Ytfimgkjdfjlkhaa
