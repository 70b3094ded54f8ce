/- 'known' of the law's package answers true. -/
import Derived.Test.YtfimgkjdfjlkhaaMr
namespace Go.Proofs.Ytfimgkjdfjlkhaa
open Go.RowKit Go.Deep Go.Maps

def k1cells (B : Nat) : Array Value := #[.string ⟨#[]⟩, .slice (some ⟨B + 1, 0, none⟩) 1 1, .int .i64 1, .bool true]
def kW3 (w : World) : World := ((w.alloc (.cells #[.map none] 36)).alloc (.cells #[.int .i64 4] 25)).alloc (.cells (k1cells w.heap.size) 24)
theorem k_start (w : World) : HubAt (kW3 w) w.heap.size w.heap.size none 0 [] ∧ Blk (kW3 w) (w.heap.size + 1) 25 #[.int .i64 4] ∧ Blk (kW3 w) (w.heap.size + 1 + 1) 24 (k1cells w.heap.size) ∧ Below w.heap.size w (kW3 w) := by
  have h := HubAt.new w w.heap.size (Nat.le_refl _)
  have b1 := Blk.new (w.alloc (.cells #[.map none] 36)) 25 #[.int .i64 4]
  have b2 := Blk.new ((w.alloc (.cells #[.map none] 36)).alloc (.cells #[.int .i64 4] 25)) 24 (k1cells w.heap.size)
  have e1 : (w.alloc (.cells #[.map none] 36)).heap.size = w.heap.size + 1 := by simp
  have e2 : ((w.alloc (.cells #[.map none] 36)).alloc (.cells #[.int .i64 4] 25)).heap.size = w.heap.size + 1 + 1 := by simp
  rw [e1] at b1
  rw [e2] at b2
  refine ⟨(h.below ((Below.refl _ _).alloc (Nat.le_refl _) _)).below ((Below.refl _ _).alloc (Nat.le_refl _) _), b1.alloc _, b2, ?_⟩
  exact (((Below.refl _ w).alloc (Nat.le_refl _) _).alloc (by simp) _).alloc (by simp only [World.size_alloc]; omega) _
theorem kinds_one {w : World} {g : Nat} (h : Blk w g 25 #[.int .i64 4]) : Reads w w.heap.size 1 (some ⟨g, 0, none⟩) [(4 : Int)].length (ints .i64 [4]) :=
  blk_reads (xs := ints .i64 [4]) h rfl
theorem free_zero : IsFree [] 0 := ⟨(fun s hs => by cases hs), (fun j hj => absurd hj (by omega))⟩
theorem free_one (g : Nat) (r : Ri) (A : Option Addr) (c : Nat) : IsFree [newSl ((0 : Nat) : Int) g r A c] 1 :=
  ⟨fun s hs => by simp only [List.mem_singleton] at hs; subst hs; show ((0 : Nat) : Int) ≠ ((1 : Nat) : Int); decide, fun j hj => ⟨_, List.mem_singleton_self _, by show ((0 : Nat) : Int) = (j : Int); omega⟩⟩
def evc (h : Hv) : Array Value := #[.int .i64 h.e.kind, .string h.e.key, .slice h.A h.e.val.length h.c, .int .u64 h.e.birth, .int .u64 h.e.due, .int .u64 h.e.at_]
def kW6 (w : World) (h1 h2 h3 : Hv) : World := ((w.alloc (.cells (evc h1) 30)).alloc (.cells (evc h2) 30)).alloc (.cells (evc h3) 30)
theorem k_six (w : World) (h1 h2 h3 : Hv) : Blk (kW6 w h1 h2 h3) w.heap.size 30 (evc h1) ∧ Blk (kW6 w h1 h2 h3) (w.heap.size + 1) 30 (evc h2) ∧ Blk (kW6 w h1 h2 h3) (w.heap.size + 1 + 1) 30 (evc h3) ∧ Below w.heap.size w (kW6 w h1 h2 h3) ∧ (kW6 w h1 h2 h3).heap.size = w.heap.size + 1 + 1 + 1 := by
  have b1 := Blk.new w 30 (evc h1)
  have b2 := Blk.new (w.alloc (.cells (evc h1) 30)) 30 (evc h2)
  have b3 := Blk.new ((w.alloc (.cells (evc h1) 30)).alloc (.cells (evc h2) 30)) 30 (evc h3)
  have e1 : (w.alloc (.cells (evc h1) 30)).heap.size = w.heap.size + 1 := by simp
  have e2 : ((w.alloc (.cells (evc h1) 30)).alloc (.cells (evc h2) 30)).heap.size = w.heap.size + 1 + 1 := by simp
  rw [e1] at b2
  rw [e2] at b3
  refine ⟨(b1.alloc _).alloc _, b2.alloc _, b3, ?_, by simp [kW6]⟩
  exact (((Below.refl _ w).alloc (Nat.le_refl _) _).alloc (by simp) _).alloc (by simp only [World.size_alloc]; omega) _
theorem evsAt_blk {w : World} {g : Nat} {hs : List Hv} (hb : Blk w g 30 (ecells hs).toArray) (hok : ∀ h ∈ hs, h.Ok w w.heap.size) : EvsAt w w.heap.size (some ⟨g, 0, none⟩) hs.length hs :=
  ⟨blk_reads hb (ecells_len hs), hok⟩
/-- The two watchers of the examples. -/
def kL (g0 c0 g1 c1 : Nat) (A0 A1 K : Option Addr) : List Sl := [newSl ((0 : Nat) : Int) g0 kR0 A0 c0, newSl ((1 : Nat) : Int) g1 (kR1 K) A1 c1]
def kPub (w : World) (base hb b n : Nat) (l : List Sl) (_g0 c0 _g1 c1 : Nat) (A0 A1 : Option Addr) (e : Ending) (w' : World) : Prop :=
  e = .returned (.tuple #[.int .i64 5, .int .i64 0]) ∧ ∃ s0 s1 : Sl, HubTo w w' base hb (some b) l (some b) n [s0, s1] ∧ s0.id = 0 ∧ s1.id = 1 ∧ s0.t.abs = ⟨kRl0 A0 c0, [evOf bAB 4, evEx bA], 1⟩ ∧ s1.t.abs = ⟨kRl1 A1 c1, [evOf bC 4], 2⟩
theorem k_publish (w : World) (base hb n b : Nat) (g0 c0 g1 c1 : Nat) (A0 A1 K : Option Addr) (hs : List Hv) (g lo : Nat) (h : HubAt w base hb (some b) n (kL g0 c0 g1 c1 A0 A1 K)) (hbase : base ≤ w.heap.size) (hlo : ∀ k ∈ hubO hb (some b) (kL g0 c0 g1 c1 A0 A1 K), k < lo)
    (hblk : Blk w g 30 (ecells hs).toArray) (hg : lo ≤ g) (hok : ∀ x ∈ hs, x.Ok w w.heap.size ∧ ∀ a, x.A = some a → lo ≤ a.block ∧ a.block < w.heap.size) (he : evs hs = kEvs) :
    Calls Try.prog 13 #[.pointer (some ⟨hb, 0, none⟩), .slice (some ⟨g, 0, none⟩) 5 5] w (kPub w base hb b n (kL g0 c0 g1 c1 A0 A1 K) g0 c0 g1 c1 A0 A1) := by
  have hl : hs.length = 5 := by
    have h1 : (evs hs).length = 5 := by rw [he]; rfl
    simpa [evs] using h1
  have hev := evsAt_blk hblk (fun x hx => (hok x hx).1)
  rw [hl] at hev
  refine (pub_any w base hb n (some b) _ hs (some ⟨g, 0, none⟩) 5 5 h hev (by omega) (fun x hx => ?_) hbase (fun s hs => ?_) (fun s hs => ?_) (fun _ a ha => ?_) (fun x hx _ a ha => ?_)).mono fun e w' hp => ?_
  · have h1 : x.e ∈ kEvs := by rw [← he]; exact List.mem_map.2 ⟨x, hx, rfl⟩
    simp only [kEvs, List.mem_cons, List.not_mem_nil, or_false] at h1
    rcases h1 with e | e | e | e | e <;> rw [e] <;> decide
  · simp only [kL, List.mem_cons, List.not_mem_nil, or_false] at hs
    rcases hs with rfl | rfl <;> (show 0 + 5 ≤ 1000000000; omega)
  · simp only [kL, List.mem_cons, List.not_mem_nil, or_false] at hs
    rcases hs with rfl | rfl
    · show 0 ≤ 1000000; omega
    · show 1 ≤ 1000000; omega
  · injection ha with ha
    subst ha
    exact fun e => by have := hlo _ e; simp only at this; omega
  · have h1 := (hok x hx).2 a ha
    exact ⟨h1.2, fun e => by have := hlo _ e; omega⟩
  · rcases hp with ⟨hbad, _⟩ | ⟨_, hlong, _⟩ | ⟨_, _, l', h1, h2, h3⟩
    · rw [k_evsOk hs he] at hbad; cases hbad
    · omega
    · have e0 : (newSl ((0 : Nat) : Int) g0 kR0 A0 c0).t.abs = ⟨kRl0 A0 c0, [], 0⟩ := rfl
      have e1 : (newSl ((1 : Nat) : Int) g1 (kR1 K) A1 c1).t.abs = ⟨kRl1 A1 c1, [], 0⟩ := rfl
      rw [he] at h1 h3
      have ht : taken (kL g0 c0 g1 c1 A0 A1 K) kEvs = 5 := by
        simp only [taken, kL, List.map_cons, List.map_nil, List.sum_cons, List.sum_nil, e0, e1, k_pubs0, k_pubs1]
        rfl
      rw [ht] at h1
      obtain ⟨l0, s0, l1, rfl, r0, r1, r2⟩ := Rel.split (a := []) h3
      obtain ⟨l2, s1, l3, rfl, r3, r4, r5⟩ := Rel.split (a := []) r2
      have e2 : l0 = [] := by cases l0 with | nil => rfl | cons _ _ => exact r0.elim
      have e3 : l2 = [] := by cases l2 with | nil => rfl | cons _ _ => exact r3.elim
      have e4 : l3 = [] := by cases l3 with | nil => rfl | cons _ _ => exact r5.elim
      subst e2 e3 e4
      refine ⟨h1, s0, s1, h2, r1.1, r4.1, ?_, ?_⟩
      · rw [r1.2.2, e0, k_pubs0]
      · rw [r4.2.2, e1, k_pubs1]
/-- An event in memory whose value lies at or above lo. -/
def Fresh (lo : Nat) (w : World) (h : Hv) : Prop := h.Ok w w.heap.size ∧ ∀ a, h.A = some a → lo ≤ a.block ∧ a.block < w.heap.size
theorem Fresh.of {w w' : World} {lo : Nat} {h : Hv} (hok : h.Ok w' w'.heap.size) (hA : ∀ a, h.A = some a → w.heap.size ≤ a.block ∧ a.block < w'.heap.size) (hl : lo ≤ w.heap.size) : Fresh lo w' h :=
  ⟨hok, fun a ha => ⟨Nat.le_trans hl (hA a ha).1, (hA a ha).2⟩⟩
theorem Fresh.below {w w' : World} {lo : Nat} {h : Hv} (f : Fresh lo w h) (hb : Below w.heap.size w w') : Fresh lo w' h :=
  ⟨(f.1.below hb).more hb.size, fun a ha => ⟨(f.2 a ha).1, Nat.lt_of_lt_of_le (f.2 a ha).2 hb.size⟩⟩
theorem Fresh.chg {w w' : World} {lo : Nat} {h : Hv} {O : List Nat} (f : Fresh lo w h) (hc : Chg O w w') (hO : ∀ k ∈ O, k < lo ∨ w.heap.size ≤ k) : Fresh lo w' h :=
  ⟨f.1.chg hc fun _ a ha e => by have h1 := f.2 a ha; have h2 := hO _ e; omega, fun a ha => ⟨(f.2 a ha).1, Nat.lt_of_lt_of_le (f.2 a ha).2 hc.size⟩⟩
theorem abs_wait {t : Wt} {r : Rl} {es : List Ev} {q : Nat} (h : t.abs = ⟨r, es, q⟩) : evs t.wait = es ∧ t.lost = q ∧ t.wait.length = es.length := by
  have h1 : t.wait.map (·.e) = es := congrArg Wa.wait h
  exact ⟨h1, congrArg Wa.lost h, by rw [← h1]; simp⟩
set_option maxRecDepth 100000 in
set_option maxHeartbeats 4000000 in
theorem known_any (w : World) : Calls Try.prog 8 #[] w fun e w' => e = .returned (.bool true) ∧ Below w.heap.size w w' := by
  obtain ⟨hh, hkb, hob, hbl⟩ := k_start w
  have HA := Lib.hid (adds_new (kW3 w) w.heap.size w.heap.size 0 none [] kR0 0 hh (Or.inl rfl) (by decide) hbl.size (by omega) (fun _ => ⟨rfl, rfl⟩) (fun _ a ha => by cases ha) k_valid0 (by decide) free_zero)
  have HH := Lib.hid hh
  have HKB := Lib.hid hkb
  have HOB := Lib.hid hob
  have HBL := Lib.hid hbl
  clear hh hkb hob hbl
  go_enter Try.func8, Try.ntmps8
  go_wp2_with fail
  refine HA.out.mono ?_
  rintro e w1 ⟨rfl, b0, g0, c0, n1, A0, hT1, hn1⟩
  have HT1 := Lib.hid hT1
  have HN1 := Lib.hid hn1
  have hnot : ∀ k, w.heap.size < k → k ∉ hubO w.heap.size none [] := fun k hk e => by
    rw [mem_hubO] at e
    rcases e with e | e | ⟨s, hs, _⟩
    · omega
    · cases e
    · cases hs
  have HKB1 := Lib.hid (hT1.chg.blk HKB.out (hnot _ (by omega)))
  have HOB1 := Lib.hid (hT1.chg.blk HOB.out (hnot _ (by omega)))
  have HB1 := Lib.hid (HBL.out.trans ((hT1.wide HH.out).below HH.out HBL.out.size))
  have hg0 : Hid (g0 ≠ w.heap.size + 1 ∧ g0 ≠ w.heap.size + 1 + 1) := Lib.hid (by
    have h1 := HT1.out.hub.wts (newSl ((0 : Nat) : Int) g0 kR0 A0 c0) (by simp)
    exact ⟨fun e => absurd (h1.1.blk.ne_ HKB1.out (by decide)) (by simp [newSl, e]), fun e => absurd (h1.1.blk.ne_ HOB1.out (by decide)) (by simp [newSl, e])⟩)
  have d0 := HOB1.out.cell 0
  have d1 := HOB1.out.cell 1
  have d2 := HOB1.out.cell 2
  have d3 := HOB1.out.cell 3
  simp only [k1cells, List.getElem?_toArray, List.getElem?_cons_zero, List.getElem?_cons_succ] at d0 d1 d2 d3
  have HA2 := Lib.hid (adds_new w1 w.heap.size w.heap.size n1 (some b0) _ (kR1 (some ⟨w.heap.size + 1, 0, none⟩)) 1 hT1.hub (Or.inr (kinds_one HKB1.out)) (by show 1 ≤ 1000000; omega) HB1.out.size (by omega) (fun e => by cases e) (fun _ a ha => by injection ha with ha; subst ha; show w.heap.size + 1 ≠ w.heap.size; omega) (k_valid1 _) (by simp) (free_one _ _ _ _))
  clear hT1 hn1 hnot HA
  go_wp2_with fail
  refine HA2.out.mono ?_
  rintro e w2 ⟨rfl, b1, g1, c1, n2, A1, hT2, hn2⟩
  rw [show ([] ++ [newSl ((0 : Nat) : Int) g0 kR0 A0 c0] ++ [newSl ((1 : Nat) : Int) g1 (kR1 (some ⟨w.heap.size + 1, 0, none⟩)) A1 c1]) = kL g0 c0 g1 c1 A0 A1 (some ⟨w.heap.size + 1, 0, none⟩) from rfl] at hT2
  have HH2 := Lib.hid hT2.hub
  have HN2 := Lib.hid hn2
  have HB2 := Lib.hid (HB1.out.trans ((hT2.wide HT1.out.hub).below HT1.out.hub HB1.out.size))
  have HO1 := Lib.hid (lawOf_any bAB 4 w2 (by unfold maxLen; decide))
  clear hT2 hn2 d0 d1 d2 d3 HA2
  go_wp2_with fail
  refine HO1.out.mono ?_
  rintro e w3 ⟨h1, rfl, he1, hok1, hb3, hA1⟩
  have HE1 := Lib.hid he1
  have HK1 := Lib.hid hok1
  have HB3 := Lib.hid hb3
  have HA1 := Lib.hid hA1
  have HO2 := Lib.hid (expired_any bB w3 (by unfold maxLen; decide))
  clear he1 hok1 hb3 hA1
  go_wp2_with fail
  refine HO2.out.mono ?_
  rintro e w4 ⟨h2, rfl, he2, hok2, hb4, hA2⟩
  have HE2 := Lib.hid he2
  have HK2 := Lib.hid hok2
  have HB4 := Lib.hid hb4
  have HA2 := Lib.hid hA2
  have HO3 := Lib.hid (expired_any bA w4 (by unfold maxLen; decide))
  clear he2 hok2 hb4 hA2
  go_wp2_with fail
  refine HO3.out.mono ?_
  rintro e w5 ⟨h3, rfl, he3, hok3, hb5, hA3⟩
  have HE3 := Lib.hid he3
  have HK3 := Lib.hid hok3
  have HB5 := Lib.hid hb5
  have HA3 := Lib.hid hA3
  clear he3 hok3 hb5 hA3
  simp only [Hv.v]
  go_wp2_with fail
  obtain ⟨q1, q2, q3, q4, q5⟩ := k_six w5 h1 h2 h3
  unfold kW6 evc at q1 q2 q3 q4 q5
  generalize ((w5.alloc (.cells #[.int .i64 h1.e.kind, .string h1.e.key, .slice h1.A h1.e.val.length h1.c, .int .u64 h1.e.birth, .int .u64 h1.e.due, .int .u64 h1.e.at_] 30)).alloc (.cells #[.int .i64 h2.e.kind, .string h2.e.key, .slice h2.A h2.e.val.length h2.c, .int .u64 h2.e.birth, .int .u64 h2.e.due, .int .u64 h2.e.at_] 30)).alloc (.cells #[.int .i64 h3.e.kind, .string h3.e.key, .slice h3.A h3.e.val.length h3.c, .int .u64 h3.e.birth, .int .u64 h3.e.due, .int .u64 h3.e.at_] 30) = w6 at *
  have HQ1 := Lib.hid q1
  have HQ2 := Lib.hid q2
  have HQ3 := Lib.hid q3
  have HB6 := Lib.hid q4
  have HS := Lib.hid (show w6.drew.cell? ⟨w5.heap.size, 0, none⟩ = some (.int .i64 h1.e.kind) ∧ w6.drew.cell? ⟨w5.heap.size, 1, none⟩ = some (.string h1.e.key) ∧ w6.drew.cell? ⟨w5.heap.size, 2, none⟩ = some (.slice h1.A h1.e.val.length h1.c) ∧ w6.drew.cell? ⟨w5.heap.size, 3, none⟩ = some (.int .u64 h1.e.birth) ∧ w6.drew.cell? ⟨w5.heap.size, 4, none⟩ = some (.int .u64 h1.e.due) ∧ w6.drew.cell? ⟨w5.heap.size, 5, none⟩ = some (.int .u64 h1.e.at_) ∧ w6.drew.cell? ⟨w5.heap.size + 1, 0, none⟩ = some (.int .i64 h2.e.kind) ∧ w6.drew.cell? ⟨w5.heap.size + 1, 1, none⟩ = some (.string h2.e.key) ∧ w6.drew.cell? ⟨w5.heap.size + 1, 2, none⟩ = some (.slice h2.A h2.e.val.length h2.c) ∧ w6.drew.cell? ⟨w5.heap.size + 1, 3, none⟩ = some (.int .u64 h2.e.birth) ∧ w6.drew.cell? ⟨w5.heap.size + 1, 4, none⟩ = some (.int .u64 h2.e.due) ∧ w6.drew.cell? ⟨w5.heap.size + 1, 5, none⟩ = some (.int .u64 h2.e.at_) ∧ w6.drew.cell? ⟨w5.heap.size + 1 + 1, 0, none⟩ = some (.int .i64 h3.e.kind) ∧ w6.drew.cell? ⟨w5.heap.size + 1 + 1, 1, none⟩ = some (.string h3.e.key) ∧ w6.drew.cell? ⟨w5.heap.size + 1 + 1, 2, none⟩ = some (.slice h3.A h3.e.val.length h3.c) ∧ w6.drew.cell? ⟨w5.heap.size + 1 + 1, 3, none⟩ = some (.int .u64 h3.e.birth) ∧ w6.drew.cell? ⟨w5.heap.size + 1 + 1, 4, none⟩ = some (.int .u64 h3.e.due) ∧ w6.drew.cell? ⟨w5.heap.size + 1 + 1, 5, none⟩ = some (.int .u64 h3.e.at_) from ⟨q1.drew.cell 0, q1.drew.cell 1, q1.drew.cell 2, q1.drew.cell 3, q1.drew.cell 4, q1.drew.cell 5, q2.drew.cell 0, q2.drew.cell 1, q2.drew.cell 2, q2.drew.cell 3, q2.drew.cell 4, q2.drew.cell 5, q3.drew.cell 0, q3.drew.cell 1, q3.drew.cell 2, q3.drew.cell 3, q3.drew.cell 4, q3.drew.cell 5⟩)
  have HKEEP : Hid (∀ wz wz2 : World, ((fun wz : World => wz.cell? ⟨w5.heap.size, 0, none⟩ = some (.int .i64 h1.e.kind) ∧ wz.cell? ⟨w5.heap.size, 1, none⟩ = some (.string h1.e.key) ∧ wz.cell? ⟨w5.heap.size, 2, none⟩ = some (.slice h1.A h1.e.val.length h1.c) ∧ wz.cell? ⟨w5.heap.size, 3, none⟩ = some (.int .u64 h1.e.birth) ∧ wz.cell? ⟨w5.heap.size, 4, none⟩ = some (.int .u64 h1.e.due) ∧ wz.cell? ⟨w5.heap.size, 5, none⟩ = some (.int .u64 h1.e.at_) ∧ wz.cell? ⟨w5.heap.size + 1, 0, none⟩ = some (.int .i64 h2.e.kind) ∧ wz.cell? ⟨w5.heap.size + 1, 1, none⟩ = some (.string h2.e.key) ∧ wz.cell? ⟨w5.heap.size + 1, 2, none⟩ = some (.slice h2.A h2.e.val.length h2.c) ∧ wz.cell? ⟨w5.heap.size + 1, 3, none⟩ = some (.int .u64 h2.e.birth) ∧ wz.cell? ⟨w5.heap.size + 1, 4, none⟩ = some (.int .u64 h2.e.due) ∧ wz.cell? ⟨w5.heap.size + 1, 5, none⟩ = some (.int .u64 h2.e.at_) ∧ wz.cell? ⟨w5.heap.size + 1 + 1, 0, none⟩ = some (.int .i64 h3.e.kind) ∧ wz.cell? ⟨w5.heap.size + 1 + 1, 1, none⟩ = some (.string h3.e.key) ∧ wz.cell? ⟨w5.heap.size + 1 + 1, 2, none⟩ = some (.slice h3.A h3.e.val.length h3.c) ∧ wz.cell? ⟨w5.heap.size + 1 + 1, 3, none⟩ = some (.int .u64 h3.e.birth) ∧ wz.cell? ⟨w5.heap.size + 1 + 1, 4, none⟩ = some (.int .u64 h3.e.due) ∧ wz.cell? ⟨w5.heap.size + 1 + 1, 5, none⟩ = some (.int .u64 h3.e.at_)) wz) → Below wz.heap.size wz wz2 → ((fun wz : World => wz.cell? ⟨w5.heap.size, 0, none⟩ = some (.int .i64 h1.e.kind) ∧ wz.cell? ⟨w5.heap.size, 1, none⟩ = some (.string h1.e.key) ∧ wz.cell? ⟨w5.heap.size, 2, none⟩ = some (.slice h1.A h1.e.val.length h1.c) ∧ wz.cell? ⟨w5.heap.size, 3, none⟩ = some (.int .u64 h1.e.birth) ∧ wz.cell? ⟨w5.heap.size, 4, none⟩ = some (.int .u64 h1.e.due) ∧ wz.cell? ⟨w5.heap.size, 5, none⟩ = some (.int .u64 h1.e.at_) ∧ wz.cell? ⟨w5.heap.size + 1, 0, none⟩ = some (.int .i64 h2.e.kind) ∧ wz.cell? ⟨w5.heap.size + 1, 1, none⟩ = some (.string h2.e.key) ∧ wz.cell? ⟨w5.heap.size + 1, 2, none⟩ = some (.slice h2.A h2.e.val.length h2.c) ∧ wz.cell? ⟨w5.heap.size + 1, 3, none⟩ = some (.int .u64 h2.e.birth) ∧ wz.cell? ⟨w5.heap.size + 1, 4, none⟩ = some (.int .u64 h2.e.due) ∧ wz.cell? ⟨w5.heap.size + 1, 5, none⟩ = some (.int .u64 h2.e.at_) ∧ wz.cell? ⟨w5.heap.size + 1 + 1, 0, none⟩ = some (.int .i64 h3.e.kind) ∧ wz.cell? ⟨w5.heap.size + 1 + 1, 1, none⟩ = some (.string h3.e.key) ∧ wz.cell? ⟨w5.heap.size + 1 + 1, 2, none⟩ = some (.slice h3.A h3.e.val.length h3.c) ∧ wz.cell? ⟨w5.heap.size + 1 + 1, 3, none⟩ = some (.int .u64 h3.e.birth) ∧ wz.cell? ⟨w5.heap.size + 1 + 1, 4, none⟩ = some (.int .u64 h3.e.due) ∧ wz.cell? ⟨w5.heap.size + 1 + 1, 5, none⟩ = some (.int .u64 h3.e.at_)) wz2)) := Lib.hid fun wz wz2 hq hb2 => by
    obtain ⟨x0, x1, x2, x3, x4, x5, y0, y1, y2, y3, y4, y5, z0, z1, z2, z3, z4, z5⟩ := hq
    exact ⟨cell_later hb2 x0, cell_later hb2 x1, cell_later hb2 x2, cell_later hb2 x3, cell_later hb2 x4, cell_later hb2 x5, cell_later hb2 y0, cell_later hb2 y1, cell_later hb2 y2, cell_later hb2 y3, cell_later hb2 y4, cell_later hb2 y5, cell_later hb2 z0, cell_later hb2 z1, cell_later hb2 z2, cell_later hb2 z3, cell_later hb2 z4, cell_later hb2 z5⟩
  have HOF := Lib.hid lawOf_any
  clear q1 q2 q3 q4 q5
  refine wp_region_noPanic ?_
  refine wp_region_held_drew (S := fun wz => wz.cell? ⟨w5.heap.size, 0, none⟩ = some (.int .i64 h1.e.kind) ∧ wz.cell? ⟨w5.heap.size, 1, none⟩ = some (.string h1.e.key) ∧ wz.cell? ⟨w5.heap.size, 2, none⟩ = some (.slice h1.A h1.e.val.length h1.c) ∧ wz.cell? ⟨w5.heap.size, 3, none⟩ = some (.int .u64 h1.e.birth) ∧ wz.cell? ⟨w5.heap.size, 4, none⟩ = some (.int .u64 h1.e.due) ∧ wz.cell? ⟨w5.heap.size, 5, none⟩ = some (.int .u64 h1.e.at_) ∧ wz.cell? ⟨w5.heap.size + 1, 0, none⟩ = some (.int .i64 h2.e.kind) ∧ wz.cell? ⟨w5.heap.size + 1, 1, none⟩ = some (.string h2.e.key) ∧ wz.cell? ⟨w5.heap.size + 1, 2, none⟩ = some (.slice h2.A h2.e.val.length h2.c) ∧ wz.cell? ⟨w5.heap.size + 1, 3, none⟩ = some (.int .u64 h2.e.birth) ∧ wz.cell? ⟨w5.heap.size + 1, 4, none⟩ = some (.int .u64 h2.e.due) ∧ wz.cell? ⟨w5.heap.size + 1, 5, none⟩ = some (.int .u64 h2.e.at_) ∧ wz.cell? ⟨w5.heap.size + 1 + 1, 0, none⟩ = some (.int .i64 h3.e.kind) ∧ wz.cell? ⟨w5.heap.size + 1 + 1, 1, none⟩ = some (.string h3.e.key) ∧ wz.cell? ⟨w5.heap.size + 1 + 1, 2, none⟩ = some (.slice h3.A h3.e.val.length h3.c) ∧ wz.cell? ⟨w5.heap.size + 1 + 1, 3, none⟩ = some (.int .u64 h3.e.birth) ∧ wz.cell? ⟨w5.heap.size + 1 + 1, 4, none⟩ = some (.int .u64 h3.e.due) ∧ wz.cell? ⟨w5.heap.size + 1 + 1, 5, none⟩ = some (.int .u64 h3.e.at_)) (by kernel_rfl) HS.out (fun hHeld => ?_)
  refine wpAnyH_take (i := 0) (oi := { dst := some 26, op := Op.move (Operand.tmp 1), type := 33, pos := "law.go:23", after := #[], guard := none }) (v := ?_) rfl (by kernel_rfl) (by kernel_rfl) (by kernel_rfl) (fun _ _ _ h => h) (Or.inl ⟨by rfl, ?_⟩) hHeld ?_
  rotate_left 1
  · intro wz hSw
    try dsimp only at hSw
    go_simp
    try with_reducible rfl
  try simp only [Act.put, List.setIfInBounds_toArray, List.set_cons_zero, List.set_cons_succ]
  refine wpAnyH_take (i := 1) (oi := { dst := some 27, op := Op.load 30 (Operand.tmp 3), type := 30, pos := "law.go:23", after := #[], guard := none }) (v := ?_) rfl (by kernel_rfl) (by kernel_rfl) (by kernel_rfl) (fun _ _ _ h => h) (Or.inl ⟨by rfl, ?_⟩) hHeld ?_
  rotate_left 1
  · intro wz hSw
    try dsimp only at hSw
    go_simp
    try with_reducible rfl
  try simp only [Act.put, List.setIfInBounds_toArray, List.set_cons_zero, List.set_cons_succ]
  refine wpAnyH_take (i := 2) (oi := { dst := some 28, op := Op.load 30 (Operand.tmp 4), type := 30, pos := "law.go:23", after := #[], guard := none }) (v := ?_) rfl (by kernel_rfl) (by kernel_rfl) (by kernel_rfl) (fun _ _ _ h => h) (Or.inl ⟨by rfl, ?_⟩) hHeld ?_
  rotate_left 1
  · intro wz hSw
    try dsimp only at hSw
    go_simp
    try with_reducible rfl
  try simp only [Act.put, List.setIfInBounds_toArray, List.set_cons_zero, List.set_cons_succ]
  refine wpAnyH_take (i := 3) (oi := { dst := some 29, op := Op.load 30 (Operand.tmp 5), type := 30, pos := "law.go:23", after := #[], guard := none }) (v := ?_) rfl (by kernel_rfl) (by kernel_rfl) (by kernel_rfl) (fun _ _ _ h => h) (Or.inl ⟨by rfl, ?_⟩) hHeld ?_
  rotate_left 1
  · intro wz hSw
    try dsimp only at hSw
    go_simp
    try with_reducible rfl
  try simp only [Act.put, List.setIfInBounds_toArray, List.set_cons_zero, List.set_cons_succ]
  refine wpAnyH_ready (rs := [4]) (by kernel_rfl) (by simp) ?_
  refine AllReadyH.cons (o := { dst := some 30, op := Op.call { callee := Callee.value (Operand.func 12), args := #[Operand.const (Value.string { data := #[97, 99] }), Operand.const (Value.int IntKind.i64 4)], argTypes := #[9, 25] }, type := 30, pos := "law.go:23", after := #[], guard := none }) rfl (fun K hK => ?_) AllReadyH.nil
  go_simp
  refine (HOF.out bAC 4 _ (by unfold maxLen; decide)).mono ?_
  rintro e w7 ⟨h4, rfl, he4, hok4, hb7, hA4⟩
  have HE4 := Lib.hid he4
  have HK4 := Lib.hid hok4
  have HB7 := Lib.hid hb7
  have HA4 := Lib.hid hA4
  clear he4 hok4 hb7 hA4
  simp only [Hv.v]
  refine hK.out _ _ (HKEEP.out _ _ hHeld HB7.out) (fun hHeld => ?_)
  clear hK K
  try simp only [Act.put, List.setIfInBounds_toArray, List.set_cons_zero, List.set_cons_succ]
  refine wpAnyH_ready (rs := [5]) (by kernel_rfl) (by simp) ?_
  refine AllReadyH.cons (o := { dst := some 31, op := Op.call { callee := Callee.value (Operand.func 12), args := #[Operand.const (Value.string { data := #[99] }), Operand.const (Value.int IntKind.i64 4)], argTypes := #[9, 25] }, type := 30, pos := "law.go:23", after := #[{ on := 4, ground := Ground.chain }], guard := none }) rfl (fun K hK => ?_) AllReadyH.nil
  go_simp
  refine (HOF.out bC 4 _ (by unfold maxLen; decide)).mono ?_
  rintro e w8 ⟨h5, rfl, he5, hok5, hb8, hA5⟩
  have HE5 := Lib.hid he5
  have HK5 := Lib.hid hok5
  have HB8 := Lib.hid hb8
  have HA5 := Lib.hid hA5
  clear he5 hok5 hb8 hA5
  simp only [Hv.v]
  refine hK.out _ _ (HKEEP.out _ _ hHeld HB8.out) (fun hHeld => ?_)
  clear hK K
  try simp only [Act.put, List.setIfInBounds_toArray, List.set_cons_zero, List.set_cons_succ]
  refine wpAnyH_ready (rs := [6]) (by kernel_rfl) (by simp) ?_
  refine AllReadyH.cons (o := { dst := some 32, op := Op.buildSlice 38 5 #[(0, Operand.tmp 27), (1, Operand.tmp 28), (2, Operand.tmp 29), (3, Operand.tmp 30), (4, Operand.tmp 31)], type := 38, pos := "law.go:23", after := #[{ on := 1, ground := Ground.data }, { on := 2, ground := Ground.data }, { on := 3, ground := Ground.data }, { on := 4, ground := Ground.data }, { on := 5, ground := Ground.data }], guard := none }) rfl (fun K hK => ?_) AllReadyH.nil
  go_simp
  have hblk : Blk (w8.alloc (.cells #[.int .i64 h1.e.kind, .string h1.e.key, .slice h1.A h1.e.val.length h1.c, .int .u64 h1.e.birth, .int .u64 h1.e.due, .int .u64 h1.e.at_, .int .i64 h2.e.kind, .string h2.e.key, .slice h2.A h2.e.val.length h2.c, .int .u64 h2.e.birth, .int .u64 h2.e.due, .int .u64 h2.e.at_, .int .i64 h3.e.kind, .string h3.e.key, .slice h3.A h3.e.val.length h3.c, .int .u64 h3.e.birth, .int .u64 h3.e.due, .int .u64 h3.e.at_, .int .i64 h4.e.kind, .string h4.e.key, .slice h4.A h4.e.val.length h4.c, .int .u64 h4.e.birth, .int .u64 h4.e.due, .int .u64 h4.e.at_, .int .i64 h5.e.kind, .string h5.e.key, .slice h5.A h5.e.val.length h5.c, .int .u64 h5.e.birth, .int .u64 h5.e.due, .int .u64 h5.e.at_] 30)) w8.heap.size 30 (ecells [h1, h2, h3, h4, h5]).toArray := Blk.new w8 30 _
  have hb9 : Below w8.heap.size w8 (w8.alloc (.cells #[.int .i64 h1.e.kind, .string h1.e.key, .slice h1.A h1.e.val.length h1.c, .int .u64 h1.e.birth, .int .u64 h1.e.due, .int .u64 h1.e.at_, .int .i64 h2.e.kind, .string h2.e.key, .slice h2.A h2.e.val.length h2.c, .int .u64 h2.e.birth, .int .u64 h2.e.due, .int .u64 h2.e.at_, .int .i64 h3.e.kind, .string h3.e.key, .slice h3.A h3.e.val.length h3.c, .int .u64 h3.e.birth, .int .u64 h3.e.due, .int .u64 h3.e.at_, .int .i64 h4.e.kind, .string h4.e.key, .slice h4.A h4.e.val.length h4.c, .int .u64 h4.e.birth, .int .u64 h4.e.due, .int .u64 h4.e.at_, .int .i64 h5.e.kind, .string h5.e.key, .slice h5.A h5.e.val.length h5.c, .int .u64 h5.e.birth, .int .u64 h5.e.due, .int .u64 h5.e.at_] 30)) := (Below.refl _ _).alloc (Nat.le_refl _) _
  have hK9 := HKEEP.out _ _ hHeld hb9
  generalize w8.alloc (.cells #[.int .i64 h1.e.kind, .string h1.e.key, .slice h1.A h1.e.val.length h1.c, .int .u64 h1.e.birth, .int .u64 h1.e.due, .int .u64 h1.e.at_, .int .i64 h2.e.kind, .string h2.e.key, .slice h2.A h2.e.val.length h2.c, .int .u64 h2.e.birth, .int .u64 h2.e.due, .int .u64 h2.e.at_, .int .i64 h3.e.kind, .string h3.e.key, .slice h3.A h3.e.val.length h3.c, .int .u64 h3.e.birth, .int .u64 h3.e.due, .int .u64 h3.e.at_, .int .i64 h4.e.kind, .string h4.e.key, .slice h4.A h4.e.val.length h4.c, .int .u64 h4.e.birth, .int .u64 h4.e.due, .int .u64 h4.e.at_, .int .i64 h5.e.kind, .string h5.e.key, .slice h5.A h5.e.val.length h5.c, .int .u64 h5.e.birth, .int .u64 h5.e.due, .int .u64 h5.e.at_] 30) = w9 at *
  have s3 := HB3.out.size
  have s4 := HB4.out.size
  have s5 := HB5.out.size
  have s6 := HB6.out.size
  have s7 : w6.heap.size ≤ w7.heap.size := HB7.out.size
  have s8 := HB8.out.size
  have hb78 : Below w6.heap.size w6 w9 := (Below.refl _ w6).drew.trans ((show Below w6.heap.size w6.drew w7 from HB7.out).trans ((HB8.out.mono s7).trans (hb9.mono (by omega))))
  have hb29 : Below w2.heap.size w2 w9 := HB3.out.trans ((HB4.out.mono s3).trans ((HB5.out.mono (by omega)).trans ((HB6.out.mono (by omega)).trans (hb78.mono (by omega)))))
  have f1 := ((((Fresh.of (lo := w2.heap.size) HK1.out HA1.out (Nat.le_refl _)).below HB4.out).below HB5.out).below HB6.out).below hb78
  have f2 := (((Fresh.of (lo := w2.heap.size) HK2.out HA2.out (by omega)).below HB5.out).below HB6.out).below hb78
  have f3 := ((Fresh.of (lo := w2.heap.size) HK3.out HA3.out (by omega)).below HB6.out).below hb78
  have f4 := ((Fresh.of (lo := w2.heap.size) HK4.out HA4.out (by show w2.heap.size ≤ w6.heap.size; omega)).below HB8.out).below hb9
  have f5 := (Fresh.of (lo := w2.heap.size) HK5.out HA5.out (by omega)).below hb9
  have hub9 := HH2.out.below hb29
  have hlo9 := HH2.out.lt
  have HPUB := Lib.hid (k_publish w9 w.heap.size w.heap.size n2 b1 g0 c0 g1 c1 A0 A1 _ [h1, h2, h3, h4, h5] w8.heap.size w2.heap.size hub9 (Nat.le_trans HB2.out.size hb29.size) hlo9 hblk (by omega) (fun x hx => by
    simp only [List.mem_cons, List.not_mem_nil, or_false] at hx
    rcases hx with rfl | rfl | rfl | rfl | rfl
    · exact f1
    · exact f2
    · exact f3
    · exact f4
    · exact f5) (by simp only [evs, List.map_cons, List.map_nil, HE1.out, HE2.out, HE3.out, HE4.out, HE5.out]; rfl))
  have HF1 := Lib.hid f1
  have HF3 := Lib.hid f3
  have HUB9 := Lib.hid hub9
  have HX1 := Lib.hid (HQ1.out.below hb78 HQ1.out.lt)
  have HX2 := Lib.hid (HQ2.out.below hb78 HQ2.out.lt)
  have HX3 := Lib.hid (HQ3.out.below hb78 HQ3.out.lt)
  have HB9 := Lib.hid (HB2.out.trans (hb29.mono HB2.out.size))
  have HLO5 : Hid (w2.heap.size ≤ w5.heap.size) := Lib.hid (by omega)
  have HK9 := Lib.hid hK9
  clear hblk hb9 hb78 hb29 f1 f2 f3 f4 f5 hub9 hlo9 hK9 s3 s4 s5 s6 s7 s8
  refine hK.out _ _ (HK9.out) (fun hHeld => ?_)
  clear hK K
  try simp only [Act.put, List.setIfInBounds_toArray, List.set_cons_zero, List.set_cons_succ]
  refine wpAnyH_ready (rs := [7]) (by kernel_rfl) (by simp) ?_
  refine AllReadyH.cons (o := { dst := some 33, op := Op.call { callee := Callee.value (Operand.func 13), args := #[Operand.tmp 26, Operand.tmp 32], argTypes := #[33, 38] }, type := 41, pos := "law.go:23", after := #[{ on := 0, ground := Ground.data }, { on := 6, ground := Ground.data }, { on := 5, ground := Ground.chain }], guard := none }) rfl (fun K hK => ?_) AllReadyH.nil
  go_simp
  refine (HPUB.out).mono ?_
  rintro e w10 ⟨rfl, s0, s1, hT10, hi0, hi1, hab0, hab1⟩
  have HT10 := Lib.hid hT10
  have HI0 := Lib.hid hi0
  have HI1 := Lib.hid hi1
  have HAB0 := Lib.hid hab0
  have HAB1 := Lib.hid hab1
  have hnO : ∀ k, w2.heap.size ≤ k → k ∉ hubO w.heap.size (some b1) (kL g0 c0 g1 c1 A0 A1 (some ⟨w.heap.size + 1, 0, none⟩)) := fun k hk e => by have := HH2.out.lt k e; omega
  have HX1' := Lib.hid (hT10.chg.blk HX1.out (hnO _ HLO5.out))
  have HX2' := Lib.hid (hT10.chg.blk HX2.out (hnO _ (by have := HLO5.out; omega)))
  have HX3' := Lib.hid (hT10.chg.blk HX3.out (hnO _ (by have := HLO5.out; omega)))
  have HF1' := Lib.hid (HF1.out.chg hT10.chg (fun k hk => Or.inl (HH2.out.lt k hk)))
  have HF3' := Lib.hid (HF3.out.chg hT10.chg (fun k hk => Or.inl (HH2.out.lt k hk)))
  have HW10 := Lib.hid (hT10.wide HUB9.out)
  clear hT10 hi0 hi1 hab0 hab1 hnO
  refine hK.out _ _ (⟨HX1'.out.cell 0, HX1'.out.cell 1, HX1'.out.cell 2, HX1'.out.cell 3, HX1'.out.cell 4, HX1'.out.cell 5, HX2'.out.cell 0, HX2'.out.cell 1, HX2'.out.cell 2, HX2'.out.cell 3, HX2'.out.cell 4, HX2'.out.cell 5, HX3'.out.cell 0, HX3'.out.cell 1, HX3'.out.cell 2, HX3'.out.cell 3, HX3'.out.cell 4, HX3'.out.cell 5⟩) (fun hHeld => ?_)
  clear hK K
  try simp only [Act.put, List.setIfInBounds_toArray, List.set_cons_zero, List.set_cons_succ]
  refine wpAnyH_take (i := 8) (oi := { dst := some 25, op := Op.move (Operand.tmp 33), type := 41, pos := "law.go:23", after := #[{ on := 7, ground := Ground.data }], guard := none }) (v := ?_) rfl (by kernel_rfl) (by kernel_rfl) (by kernel_rfl) (fun _ _ _ h => h) (Or.inl ⟨by rfl, ?_⟩) hHeld ?_
  rotate_left 1
  · intro wz hSw
    try dsimp only at hSw
    go_simp
    try with_reducible rfl
  try simp only [Act.put, List.setIfInBounds_toArray, List.set_cons_zero, List.set_cons_succ]
  refine wpAnyH_take (i := 9) (oi := { dst := some 34, op := Op.extract (Operand.tmp 25) 0, type := 3, pos := "law.go:23", after := #[{ on := 8, ground := Ground.data }], guard := none }) (v := ?_) rfl (by kernel_rfl) (by kernel_rfl) (by kernel_rfl) (fun _ _ _ h => h) (Or.inl ⟨by rfl, ?_⟩) hHeld ?_
  rotate_left 1
  · intro wz hSw
    try dsimp only at hSw
    go_simp
    try with_reducible rfl
  try simp only [Act.put, List.setIfInBounds_toArray, List.set_cons_zero, List.set_cons_succ]
  refine wpAnyH_take (i := 10) (oi := { dst := some 35, op := Op.extract (Operand.tmp 25) 1, type := 40, pos := "law.go:23", after := #[{ on := 8, ground := Ground.data }, { on := 11, ground := Ground.gcOnly Departure.lateStores }], guard := none }) (v := ?_) rfl (by kernel_rfl) (by kernel_rfl) (by kernel_rfl) (fun _ _ _ h => h) (Or.inl ⟨by rfl, ?_⟩) hHeld ?_
  rotate_left 1
  · intro wz hSw
    try dsimp only at hSw
    go_simp
    try with_reducible rfl
  try simp only [Act.put, List.setIfInBounds_toArray, List.set_cons_zero, List.set_cons_succ]
  refine wpAnyH_ready (rs := [11]) (by kernel_rfl) (by simp) ?_
  refine AllReadyH.cons (o := { dst := some 6, op := Op.assign (Operand.tmp 34), type := 3, pos := "law.go:23", after := #[{ on := 9, ground := Ground.data }, { on := 7, ground := Ground.chain }, { on := 0, ground := Ground.phase }, { on := 1, ground := Ground.phase }, { on := 2, ground := Ground.phase }, { on := 3, ground := Ground.phase }, { on := 4, ground := Ground.phase }, { on := 5, ground := Ground.phase }, { on := 6, ground := Ground.phase }, { on := 7, ground := Ground.phase }, { on := 8, ground := Ground.phase }, { on := 9, ground := Ground.phase }, { on := 10, ground := Ground.textOnly Departure.lateStores }], guard := none }) rfl (fun K hK => ?_) AllReadyH.nil
  go_simp
  refine hK.out _ _ (hHeld) (fun hHeld => ?_)
  clear hK K
  try simp only [Act.put, List.setIfInBounds_toArray, List.set_cons_zero, List.set_cons_succ]
  refine wpAnyH_ready (rs := [12]) (by kernel_rfl) (by simp) ?_
  refine AllReadyH.cons (o := { dst := some 7, op := Op.assign (Operand.tmp 35), type := 40, pos := "law.go:23", after := #[{ on := 10, ground := Ground.data }, { on := 11, ground := Ground.chain }, { on := 0, ground := Ground.phase }, { on := 1, ground := Ground.phase }, { on := 2, ground := Ground.phase }, { on := 3, ground := Ground.phase }, { on := 4, ground := Ground.phase }, { on := 5, ground := Ground.phase }, { on := 6, ground := Ground.phase }, { on := 7, ground := Ground.phase }, { on := 8, ground := Ground.phase }, { on := 9, ground := Ground.phase }, { on := 10, ground := Ground.phase }, { on := 11, ground := Ground.phase }], guard := none }) rfl (fun K hK => ?_) AllReadyH.nil
  go_simp
  refine hK.out _ _ (hHeld) (fun hHeld => ?_)
  clear hK K
  try simp only [Act.put, List.setIfInBounds_toArray, List.set_cons_zero, List.set_cons_succ]
  refine wpAnyH_done (by kernel_rfl) ?_ _
  refine NoPanic.normal ?_
  have a0 := HX1'.out.cell 0
  have a1 := HX1'.out.cell 1
  have a2 := HX1'.out.cell 2
  have a3 := HX1'.out.cell 3
  have a4 := HX1'.out.cell 4
  have a5 := HX1'.out.cell 5
  have z0 := HX3'.out.cell 0
  have z1 := HX3'.out.cell 1
  have z2 := HX3'.out.cell 2
  have z3 := HX3'.out.cell 3
  have z4 := HX3'.out.cell 4
  have z5 := HX3'.out.cell 5
  simp only [List.getElem?_toArray, List.getElem?_cons_zero, List.getElem?_cons_succ] at a0 a1 a2 a3 a4 a5 z0 z1 z2 z3 z4 z5
  obtain ⟨wt0, lt0, ll0⟩ := abs_wait HAB0.out
  obtain ⟨wt1, lt1, ll1⟩ := abs_wait HAB1.out
  have hb11 : Below w10.heap.size w10 (w10.alloc (.cells #[.int .i64 h1.e.kind, .string h1.e.key, .slice h1.A h1.e.val.length h1.c, .int .u64 h1.e.birth, .int .u64 h1.e.due, .int .u64 h1.e.at_, .int .i64 h3.e.kind, .string h3.e.key, .slice h3.A h3.e.val.length h3.c, .int .u64 h3.e.birth, .int .u64 h3.e.due, .int .u64 h3.e.at_] 30)) := (Below.refl _ _).alloc (Nat.le_refl _) _
  have hblk : Blk (w10.alloc (.cells #[.int .i64 h1.e.kind, .string h1.e.key, .slice h1.A h1.e.val.length h1.c, .int .u64 h1.e.birth, .int .u64 h1.e.due, .int .u64 h1.e.at_, .int .i64 h3.e.kind, .string h3.e.key, .slice h3.A h3.e.val.length h3.c, .int .u64 h3.e.birth, .int .u64 h3.e.due, .int .u64 h3.e.at_] 30)) w10.heap.size 30 (ecells [h1, h3]).toArray := Blk.new w10 30 _
  have hBW10 : w.heap.size ≤ w10.heap.size := Nat.le_trans HB9.out.size HT10.out.chg.size
  have hTK1 := takes_yes _ w.heap.size w.heap.size n2 (some b1) [] [s1] s0 9 2 (some ⟨w10.heap.size, 0, none⟩) 2 [h1, h3] (HT10.out.hub.below hb11) (Nat.le_trans hBW10 hb11.size) (HW10.out.sep (by simp [kL, vblks, newSl, wb])) (by rw [ll0]; rfl)
    (evsAt_blk hblk (fun x hx => by
      simp only [List.mem_cons, List.not_mem_nil, or_false] at hx
      rcases hx with rfl | rfl
      · exact (HF1'.out.below hb11).1
      · exact (HF3'.out.below hb11).1))
    (by
      have e1 : evs (s0.t.wait.take 2) = (evs s0.t.wait).take 2 := by unfold evs; rw [List.map_take]
      rw [e1, wt0]
      simp only [evs, List.map_cons, List.map_nil, HE1.out, HE3.out]; rfl)
    (fun _ a ha e => by
      injection ha with ha
      subst ha
      have := (HT10.out.hub.geA _ e).2
      simp only at this; omega)
    (fun x hx _ a ha e => by
      have h2 := HW10.out.own _ e
      have h3 : ∀ k ∈ hubA w.heap.size (some b1) (kL g0 c0 g1 c1 A0 A1 (some ⟨w.heap.size + 1, 0, none⟩)), k < w2.heap.size := fun k hk => (HH2.out.geA k hk).2
      simp only [List.mem_cons, List.not_mem_nil, or_false] at hx
      rcases hx with rfl | rfl
      · have h1 := HF1.out.2 a ha
        rcases h2 with h2 | h2
        · have := h3 _ h2; omega
        · omega
      · have h1 := HF3.out.2 a ha
        rcases h2 with h2 | h2
        · have := h3 _ h2; omega
        · omega)
  rw [HI0.out] at hTK1
  have HTK1 := Lib.hid hTK1
  have HB11 := Lib.hid hb11
  have HWT0 := Lib.hid wt0
  have HWT1 := Lib.hid wt1
  have HLT0 := Lib.hid lt0
  have HLT1 := Lib.hid lt1
  have HLL0 := Lib.hid ll0
  have HLL1 := Lib.hid ll1
  have HBW10 := Lib.hid hBW10
  have HSEP10 := Lib.hid (HW10.out.sep (by simp [kL, vblks, newSl, wb]))
  clear wt0 wt1 lt0 lt1 ll0 ll1 hb11 hblk hTK1 hBW10
  go_wp2_with fail
  refine HTK1.out.mono ?_
  rintro e w12 ⟨rfl, t0, hW12, hrl0, hwt0, hlo0⟩
  have HW12 := Lib.hid hW12
  have HWT0' := Lib.hid hwt0
  have hLS := lostL_yes w12 w.heap.size w.heap.size n2 (some b1) _ (s0.with_ t0) 1 hW12.hub (by simp)
  rw [show (s0.with_ t0).id = 0 from HI0.out, show (((s0.with_ t0).t.lost : Int) == 1) = true by rw [show (s0.with_ t0).t.lost = 1 from hlo0.trans HLT0.out]; rfl] at hLS
  have HLS := Lib.hid hLS
  have HO6 := Lib.hid (lawOf_any bC 4 w12 (by unfold maxLen; decide))
  have HBW12 := Lib.hid (Nat.le_trans HBW10.out (Nat.le_trans HB11.out.size hW12.chg.size))
  have HB12 := Lib.hid ((HB9.out.trans ((HW10.out.below HUB9.out HB9.out.size))).trans ((HB11.out.mono HBW10.out).trans (hW12.below (HT10.out.hub.below HB11.out) (Nat.le_trans HBW10.out HB11.out.size))))
  have HSEP12 := Lib.hid (hW12.sep HSEP10.out)
  clear hW12 hrl0 hwt0 hlo0 hLS HTK1 a0 a1 a2 a3 a4 a5 z0 z1 z2 z3 z4 z5 HPUB HA1 HA2 HA3 HA4 HA5 HK1 HK2 HK3 HK4 HK5 HB3 HB4 HB5 HB6 HB7 HB8 HS HKEEP HK9 HX1 HX2 HX3 HQ1 HQ2 HQ3
  go_wp2_with fail
  refine HLS.out.mono ?_
  rintro e w' ⟨rfl, rfl⟩
  go_wp2_with fail
  refine HO6.out.mono ?_
  rintro e w13 ⟨h6, rfl, he6, hok6, hb13, hA6⟩
  simp only [Hv.v]
  have hb14 : Below w13.heap.size w13 (w13.alloc (.cells #[.int .i64 h6.e.kind, .string h6.e.key, .slice h6.A h6.e.val.length h6.c, .int .u64 h6.e.birth, .int .u64 h6.e.due, .int .u64 h6.e.at_] 30)) := (Below.refl _ _).alloc (Nat.le_refl _) _
  have hblk : Blk (w13.alloc (.cells #[.int .i64 h6.e.kind, .string h6.e.key, .slice h6.A h6.e.val.length h6.c, .int .u64 h6.e.birth, .int .u64 h6.e.due, .int .u64 h6.e.at_] 30)) w13.heap.size 30 (ecells [h6]).toArray := Blk.new w13 30 _
  have f6 := (Fresh.of (lo := w12.heap.size) hok6 hA6 (Nat.le_refl _)).below hb14
  have hub14 := (HW12.out.hub.below hb13).below hb14
  have hTK2 := takes_yes _ w.heap.size w.heap.size n2 (some b1) [s0.with_ t0] [] s1 9 1 (some ⟨w13.heap.size, 0, none⟩) 1 [h6] hub14 (Nat.le_trans HBW12.out (Nat.le_trans hb13.size hb14.size)) HSEP12.out (by rw [HLL1.out]; rfl)
    (evsAt_blk hblk (fun x hx => by
      simp only [List.mem_cons, List.not_mem_nil, or_false] at hx
      subst hx
      exact f6.1))
    (by
      have e1 : evs (s1.t.wait.take 1) = (evs s1.t.wait).take 1 := by unfold evs; rw [List.map_take]
      rw [e1, HWT1.out]
      simp only [evs, List.map_cons, List.map_nil, he6]; rfl)
    (fun _ a ha e => by
      injection ha with ha
      subst ha
      have := (HW12.out.hub.geA _ e).2
      have hs13 := hb13.size
      exact absurd (show w13.heap.size < w12.heap.size from this) (by omega))
    (fun x hx _ a ha e => by
      simp only [List.mem_cons, List.not_mem_nil, or_false] at hx
      subst hx
      have h1 := f6.2 a ha
      have := (HW12.out.hub.geA _ e).2
      omega)
  rw [HI1.out] at hTK2
  have HTK2 := Lib.hid hTK2
  have HUB14 := Lib.hid hub14
  have HB14 := Lib.hid (HB12.out.trans ((hb13.mono HBW12.out).trans (hb14.mono (Nat.le_trans HBW12.out hb13.size))))
  clear he6 hok6 hb13 hA6 hb14 hblk f6 hub14 hTK2 HLS HO6
  go_wp2_with fail
  refine HTK2.out.mono ?_
  rintro e w15 ⟨rfl, t1, hW15, hrl1, hwt1, hlo1⟩
  have hLS := lostL_yes w15 w.heap.size w.heap.size n2 (some b1) _ (s1.with_ t1) 2 hW15.hub (by simp)
  rw [show (s1.with_ t1).id = 1 from HI1.out, show (((s1.with_ t1).t.lost : Int) == 2) = true by rw [show (s1.with_ t1).t.lost = 2 from hlo1.trans HLT1.out]; rfl] at hLS
  have HLS := Lib.hid hLS
  have HB15 := Lib.hid (HB14.out.trans (hW15.below HUB14.out HB14.out.size))
  have hRM := removed_yes w15 w.heap.size w.heap.size n2 (some b1) [] [s1.with_ t1] (s0.with_ t0) hW15.hub
  rw [show (s0.with_ t0).id = 0 from HI0.out, show (s0.with_ t0).t.wait.length = 0 by show t0.wait.length = 0; rw [HWT0'.out, List.length_drop, HLL0.out]; rfl] at hRM
  have HRM := Lib.hid hRM
  have HUB15 := Lib.hid hW15.hub
  clear hW15 hrl1 hwt1 hlo1 hLS hRM HTK2
  go_wp2_with fail
  refine HLS.out.mono ?_
  rintro e w' ⟨rfl, rfl⟩
  go_wp2_with fail
  refine HRM.out.mono ?_
  rintro e w16 ⟨rfl, hT16⟩
  have HUB16 := Lib.hid hT16.hub
  have HB16 := Lib.hid (HB15.out.trans ((hT16.wide HUB15.out).below HUB15.out HB15.out.size))
  have HN2' : Hid (n2 ≤ 2) := Lib.hid (by have := HN1.out; have := HN2.out; omega)
  have HA3 := Lib.hid (adds_new w16 w.heap.size w.heap.size n2 (some b1) _ ⟨⟨#[]⟩, [], 1, false, none, 0⟩ 0 hT16.hub (Or.inl rfl) (by decide) HB16.out.size (by have := HN2'.out; omega) (fun _ => ⟨rfl, rfl⟩) (fun _ a ha => by cases ha) (by decide +kernel) (by simp)
    ⟨fun s hs => by
      have hs2 : s ∈ [s1.with_ t1] := hs
      rw [List.mem_singleton] at hs2
      subst hs2
      rw [show (s1.with_ t1).id = 1 from HI1.out]
      decide, fun j hj => absurd hj (by omega)⟩)
  clear hT16 HRM HLS
  go_wp2_with fail
  refine HA3.out.mono ?_
  rintro e w17 ⟨rfl, b2, g2, c2, n3, A2, hT17, hn3⟩
  have HUB17 := Lib.hid hT17.hub
  have HB17 := Lib.hid (HB16.out.trans ((hT17.wide HUB16.out).below HUB16.out HB16.out.size))
  have HN3 := Lib.hid hn3
  have HTN := Lib.hid (took_no w17 w.heap.size w.heap.size n3 (some b2) _ 5 1 hT17.hub (by decide +kernel) (fun s hs => by
    have hs2 : s ∈ [s1.with_ t1, newSl ((0 : Nat) : Int) g2 ⟨⟨#[]⟩, [], 1, false, none, 0⟩ A2 c2] := hs
    simp only [List.mem_cons, List.not_mem_nil, or_false] at hs2
    rcases hs2 with rfl | rfl
    · rw [show (s1.with_ t1).id = 1 from HI1.out]; decide
    · show ((0 : Nat) : Int) ≠ 5; decide) (by decide))
  have HAN := Lib.hid (adds_no w17 w.heap.size w.heap.size n3 (some b2) _ ⟨⟨#[]⟩, [], 0, false, none, 0⟩ hT17.hub (Or.inl rfl) (by decide) HB17.out.size (by have := HN2'.out; omega) (fun _ => ⟨rfl, rfl⟩) (fun _ a ha => by cases ha) (by decide +kernel))
  clear hT17 hn3 HA3
  go_wp2_with fail
  refine HTN.out.mono ?_
  rintro e w' ⟨rfl, rfl⟩
  go_wp2_with fail
  refine HAN.out.mono ?_
  rintro e w18 ⟨rfl, hb18⟩
  have hub18 := HUB17.out.below hb18
  have HB18 := Lib.hid (HB17.out.trans (hb18.mono HB17.out.size))
  have hb19 : Below w18.heap.size w18 (w18.alloc (.cells #[.int .i64 4, .int .i64 4] 25)) := (Below.refl _ _).alloc (Nat.le_refl _) _
  have hlt18 := hub18.blk.lt
  have HAN2 := Lib.hid (adds_no (w18.alloc (.cells #[.int .i64 4, .int .i64 4] 25)) w.heap.size w.heap.size n3 (some b2) _ ⟨⟨#[]⟩, [4, 4], 1, false, some ⟨w18.heap.size, 0, none⟩, 2⟩ (hub18.below hb19) (Or.inr (blk_reads (xs := ints .i64 [4, 4]) (Blk.new w18 25 _) rfl)) (by show 2 ≤ 1000000; omega) (Nat.le_trans HB18.out.size hb19.size) (by have := HN2'.out; have := HN3.out; omega) (fun e => by cases e) (fun _ a ha => by injection ha with ha; subst ha; show w18.heap.size ≠ w.heap.size; omega)
    (by
      unfold validRi
      rw [show kindsOk (⟨⟨#[]⟩, [4, 4], 1, false, some ⟨w18.heap.size, 0, none⟩, 2⟩ : Ri).kinds = false by show kindsOk [4, 4] = false; decide +kernel]
      rfl))
  have HB19 := Lib.hid (HB18.out.trans (hb19.mono HB18.out.size))
  clear hb18 hub18 hb19 hlt18
  go_wp2_with fail
  refine HAN2.out.mono ?_
  rintro e w20 ⟨rfl, hb20⟩
  have HB20 := Lib.hid (HB19.out.trans (hb20.mono HB19.out.size))
  clear hb20
  go_wp2
  go_ret
  exact ⟨rfl, HB20.out⟩
end Go.Proofs.Ytfimgkjdfjlkhaa
