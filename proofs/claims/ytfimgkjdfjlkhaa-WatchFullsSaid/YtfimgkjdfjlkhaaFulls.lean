/- WatchFulls: for all numbers the law answers true. No condition. -/
import Derived.Test.YtfimgkjdfjlkhaaMu
import Derived.Maps.AppendAt
namespace Go.Proofs.Ytfimgkjdfjlkhaa
open Go.ChangeShapes Go.WideShapes Go.ChangeAt Go.RowKit Go.Deep Go.Maps

def bX : ByteArray := ⟨#[120]⟩
def bK : ByteArray := ⟨#[107]⟩
/-- Publishing one event many times to a watcher that keeps the oldest. -/
theorem pubs_rep (e : Ev) (r : Rl) (hf : r.toRi.fits e = true) (ho : r.oldest = false) : ∀ (m : Nat) (a : Wa), a.rl = r → a.wait.length ≤ r.room →
    (pubs a (List.replicate m e)).2 = min m (r.room - a.wait.length) ∧ (pubs a (List.replicate m e)).1.lost = a.lost + (m - (r.room - a.wait.length)) := by
  intro m
  induction m with
  | zero => intro a _ _; simp [pubs]
  | succ m ih =>
    intro a hr hl
    subst hr
    rw [List.replicate_succ]
    have h1 : pub1 a e = put1 a e := by unfold pub1; rw [if_pos hf]
    show (pub1 a e).2 + (pubs (pub1 a e).1 (List.replicate m e)).2 = _ ∧ (pubs (pub1 a e).1 (List.replicate m e)).1.lost = _
    rw [h1]
    by_cases hfull : a.wait.length = a.rl.room
    · have h2 : put1 a e = (⟨a.rl, a.wait, a.lost + 1⟩, 0) := by unfold put1; rw [if_pos hfull, if_neg (by rw [ho]; decide)]
      rw [h2]
      obtain ⟨i1, i2⟩ := ih ⟨a.rl, a.wait, a.lost + 1⟩ rfl hl
      simp only at i1 i2
      rw [i1, i2]
      omega
    · have h2 : put1 a e = (⟨a.rl, a.wait ++ [e], a.lost⟩, 1) := by unfold put1; rw [if_neg hfull]
      rw [h2]
      obtain ⟨i1, i2⟩ := ih ⟨a.rl, a.wait ++ [e], a.lost⟩ rfl (by simp; omega)
      simp only [List.length_append, List.length_singleton] at i1 i2
      rw [i1, i2]
      omega
/-- 'append(s, x)' of one element onto a row of the call's own, and where it lies then. -/
theorem wpList_app1_at {P : Program} {ops : Array Oper} {rest : List Oper} {o : Oper} {a : Act} {Q : Exit → Act → World → Prop} (w0 : World) (hgd : o.guard = none) (s x : Operand) (t : TypeId)
    (ho : o.op = .call { callee := .builtin .append, args := #[s, x], argTypes := #[t, t] })
    (base : Nat) (e : TypeId) (size bytes : Nat) (z : Value) (hinfo : (P.info? e).map (fun i => (i.zero, i.size, i.bytes)) = some (some z, size, bytes)) (ht : P.underlying t = some (.slice e)) (hzs : z.cells.size = size) (hsz : 0 < size)
    (v : Value) (n : Nat) (xs cs : List Value) (hs : a.eval s = v) (hown : w0.ownsRow base e size v n xs) (hcs : cs.length = size) (h1 : ∀ u ∈ cs, u.oneCell' = true)
    (hx : a.eval x = .slice (some ⟨w0.heap.size, 0, none⟩) 1 1) (h63 : n + 1 ≤ maxLen) (hbytes : (n + 1) * bytes ≤ 140737488355328) (hbase : base ≤ w0.heap.size)
    (h : ∀ v' w', w'.ownsRow base e size v' (n + 1) (xs ++ cs) → w0.grownBy w' v.ownBlock → (v'.ownBlock = v.ownBlock ∨ v'.ownBlock = some (w0.heap.size + 1)) → wpList P ops Q rest (a.put o.dst v') w') : wpList P ops Q (o :: rest) a (w0.alloc (.cells cs.toArray e)) := by
  obtain ⟨i0, hi, hz0, hz1, hz2⟩ := info_parts hinfo
  refine wpList_append_own_at (w := w0.alloc (.cells cs.toArray e)) hgd s x t ho base e i0 z size bytes ht hi hz0 hz1 hz2 hzs hsz v n xs hs (hown.alloc _) ⟨w0.heap.size, 0, none⟩ 1 1 cs hx (by omega) ?_ h1 h63 hbytes (by simp; omega) ?_
  · intro j u hj
    have hs : (w0.alloc (.cells cs.toArray e)).heap[w0.heap.size]? = some (.cells cs.toArray e) := heap_alloc_new w0 _
    rw [add_spot _ _ rfl]
    simp only [Nat.zero_add]
    unfold World.cell?
    rw [hs]
    simpa using hj
  · intro v' w' hown' hg _ hat
    exact h v' w' hown' ((World.grownBy_alloc _ _ _).trans hg) (by rwa [World.size_alloc] at hat)
theorem Fresh.chg2 {w w' : World} {lo : Nat} {h : Hv} {O : List Nat} (f : Fresh lo w h) (hc : Chg O w w') (hO : ∀ a, h.A = some a → a.block ∉ O) : Fresh lo w' h :=
  ⟨f.1.chg hc fun _ a ha => hO a ha, fun a ha => ⟨(f.2 a ha).1, Nat.lt_of_lt_of_le (f.2 a ha).2 hc.size⟩⟩
/-- The first hub: it has as many watchers as were added. -/
def FL (w wr : World) (i : Nat) : Prop := ∃ (m : Option Nat) (n : Nat) (l : List Sl), HubAt wr w.heap.size w.heap.size m n l ∧ Below w.heap.size w wr ∧ l.length = min i 64 ∧ (∀ s ∈ l, s.id < ((min i 64 : Nat) : Int)) ∧ (∀ j < min i 64, ∃ s ∈ l, s.id = (j : Int)) ∧ n ≤ i
/-- The events, as they are laid out. -/
def LL (w3 : World) (x : Value) (wr : World) (j : Nat) : Prop := ∃ (A : Option Addr) (c : Nat) (hs : List Hv), x = .slice A j c ∧ wr.ownsRow w3.heap.size 30 6 (.slice A j c) j (ecells hs) ∧ evs hs = List.replicate j (evOf bK 4) ∧
  (∀ h ∈ hs, Fresh w3.heap.size wr h ∧ ∀ a, h.A = some a → (Value.slice A j c).ownBlock ≠ some a.block) ∧ Below w3.heap.size w3 wr
def fR (room : Int) : Ri := ⟨⟨#[]⟩, [], room, false, none, 0⟩
theorem fR_valid {room : Nat} (h3 : 999 ≤ room) (h4 : room ≤ 1000) : validRi (fR room) = true := by
  unfold validRi fR
  simp only [show kindsOk [] = true by decide +kernel, Bool.true_and, Bool.and_eq_true, decide_eq_true_eq]
  refine ⟨⟨by decide, by omega⟩, by omega⟩
theorem fR_bad : validRi (fR ((1001 : Nat) : Int)) = false := by decide +kernel
theorem fX_valid : validRi ⟨bX, [], 1, false, none, 0⟩ = true := by decide +kernel
theorem rep_ok (hs : List Hv) (m : Nat) (h : evs hs = List.replicate m (evOf bK 4)) : badB hs = false := by
  have h1 : badB hs = (evs hs).any fun e => !validE e := by unfold badB evs; rw [List.any_map]; rfl
  rw [h1, h, List.any_eq_false]
  intro x hx
  rw [(List.mem_replicate.1 hx).2]
  decide +kernel
theorem f_fit (room : Nat) (A : Option Addr) (c : Nat) : (Rl.mk ⟨#[]⟩ [] room false A c).toRi.fits (evOf bK 4) = true := by rw [fits_eq]; rfl
set_option maxHeartbeats 2000000 in
theorem fulls_out (many room events : Int) (w : World) (h : many < 63 ∨ 65 < many ∨ room < 999 ∨ 1001 < room ∨ events < 4094 ∨ 4098 < events) :
    Calls Try.prog 4 #[.int .i64 many, .int .i64 room, .int .i64 events] w fun e w' => e = .returned (.bool true) ∧ Below w.heap.size w w' := by
  by_cases c0 : many < 63
  · clear h
    go_enter Try.func4, Try.ntmps4
    go_wp2_with fail
    refine (known_any _).mono ?_
    rintro e w1 ⟨rfl, hb1⟩
    have HB1 := Lib.hid hb1
    clear hb1
    go_wp2
    go_ret
    exact ⟨rfl, HB1.out⟩
  · skip
    by_cases c1 : 65 < many
    · clear h
      go_enter Try.func4, Try.ntmps4
      go_wp2_with fail
      refine (known_any _).mono ?_
      rintro e w1 ⟨rfl, hb1⟩
      have HB1 := Lib.hid hb1
      clear hb1
      go_wp2
      go_ret
      exact ⟨rfl, HB1.out⟩
    · skip
      by_cases c2 : room < 999
      · clear h
        go_enter Try.func4, Try.ntmps4
        go_wp2_with fail
        refine (known_any _).mono ?_
        rintro e w1 ⟨rfl, hb1⟩
        have HB1 := Lib.hid hb1
        clear hb1
        go_wp2
        go_ret
        exact ⟨rfl, HB1.out⟩
      · skip
        by_cases c3 : 1001 < room
        · clear h
          go_enter Try.func4, Try.ntmps4
          go_wp2_with fail
          refine (known_any _).mono ?_
          rintro e w1 ⟨rfl, hb1⟩
          have HB1 := Lib.hid hb1
          clear hb1
          go_wp2
          go_ret
          exact ⟨rfl, HB1.out⟩
        · skip
          by_cases c4 : events < 4094
          · clear h
            go_enter Try.func4, Try.ntmps4
            go_wp2_with fail
            refine (known_any _).mono ?_
            rintro e w1 ⟨rfl, hb1⟩
            have HB1 := Lib.hid hb1
            clear hb1
            go_wp2
            go_ret
            exact ⟨rfl, HB1.out⟩
          · skip
            by_cases c5 : 4098 < events
            · clear h
              go_enter Try.func4, Try.ntmps4
              go_wp2_with fail
              refine (known_any _).mono ?_
              rintro e w1 ⟨rfl, hb1⟩
              have HB1 := Lib.hid hb1
              clear hb1
              go_wp2
              go_ret
              exact ⟨rfl, HB1.out⟩
            · skip
              omega
set_option maxRecDepth 100000 in
set_option maxHeartbeats 4000000 in
theorem fulls_in (many room events : Nat) (w : World) (h1 : 63 ≤ many) (h2 : many ≤ 65) (h3 : 999 ≤ room) (h4 : room ≤ 1001) (h5 : 4094 ≤ events) (h6 : events ≤ 4098) :
    Calls Try.prog 4 #[.int .i64 many, .int .i64 room, .int .i64 events] w fun e w' => e = .returned (.bool true) ∧ Below w.heap.size w w' := by
  have c0 : ¬ (many : Int) < 63 := by omega
  have c1 : ¬ (65 : Int) < (many : Int) := by omega
  have c2 : ¬ (room : Int) < 999 := by omega
  have c3 : ¬ (1001 : Int) < (room : Int) := by omega
  have c4 : ¬ (events : Int) < 4094 := by omega
  have c5 : ¬ (4098 : Int) < (events : Int) := by omega
  have HX0 := Lib.hid (HubAt.new w w.heap.size (Nat.le_refl _))
  go_enter Try.func4, Try.ntmps4
  go_wp2
  go_loopw [8, 9, 10] (fun x8 _ _ wr => ∃ i : Nat, i ≤ many ∧ x8 = .int .i64 i ∧ FL w wr i) (fun x8 _ _ _ => many - (intOf x8).toNat)
  case atStart => exact ⟨0, Nat.zero_le _, rfl, none, 0, [], HX0.out, (Below.refl _ w).alloc (Nat.le_refl _) _, rfl, (fun s hs => by cases hs), (fun j hj => absurd hj (by omega)), Nat.le_refl _⟩
  case round =>
    obtain ⟨i, hi, rfl, m, n, l, hh, hb, hll, hids, hocc, hn⟩ := hrel
    obtain ⟨wo, hwo⟩ : ∃ x, x = wr := ⟨wr, rfl⟩
    subst hwo
    have HH := Lib.hid hh
    have HB := Lib.hid hb
    have HLL := Lib.hid hll
    have HIDS := Lib.hid hids
    have HOCC := Lib.hid hocc
    clear hh hb hll hids hocc
    by_cases hlt : i < many
    · have hi0 : (0 : Int) ≤ (i : Int) := Int.natCast_nonneg _
      have hi1 : (i : Int) < (many : Int) := by omega
      by_cases h64 : i < 64
      · have hd : ¬ (64 : Int) ≤ (i : Int) := by omega
        have HA := Lib.hid (adds_new wo w.heap.size w.heap.size n m l ⟨bX, [], 1, false, none, 0⟩ i HH.out (Or.inl rfl) (by decide) HB.out.size (by omega) (fun _ => ⟨rfl, rfl⟩) (fun _ a ha => by cases ha) fX_valid (by rw [HLL.out]; omega)
          ⟨fun s hs e => by have := HIDS.out s hs; rw [e] at this; omega, fun j hj => HOCC.out j (by omega)⟩)
        go_wp2_with fail
        refine HA.out.mono ?_
        rintro e w2 ⟨rfl, b, g, c, n', A, hT, hn'⟩
        have HT := Lib.hid hT
        clear hT
        go_wp2
        go_roundw
        case rel =>
          refine ⟨i + 1, by omega, by go_num, some b, n', _, HT.out.hub, HB.out.trans ((HT.out.wide HH.out).below HH.out HB.out.size), ?_, ?_, ?_, by omega⟩
          · rw [List.length_append, HLL.out]; simp; omega
          · intro s hs
            rcases List.mem_append.1 hs with hs | hs
            · have := HIDS.out s hs; omega
            · simp only [List.mem_singleton] at hs
              subst hs
              show (i : Int) < _
              omega
          · intro j hj
            by_cases e : j = i
            · subst e; exact ⟨_, List.mem_append_right _ (List.mem_singleton_self _), rfl⟩
            · obtain ⟨s, hs, e2⟩ := HOCC.out j (by omega)
              exact ⟨s, List.mem_append_left _ hs, e2⟩
        case measure => simp [intOf]; omega
      · have hd : (64 : Int) ≤ (i : Int) := by omega
        have HA := Lib.hid (adds_full wo w.heap.size w.heap.size n m l ⟨bX, [], 1, false, none, 0⟩ HH.out (Or.inl rfl) (by decide) HB.out.size (by omega) (fun _ => ⟨rfl, rfl⟩) (fun _ a ha => by cases ha) fX_valid (by rw [HLL.out]; omega))
        go_wp2_with fail
        refine HA.out.mono ?_
        rintro e w2 ⟨rfl, hb2⟩
        have HB2 := Lib.hid hb2
        clear hb2
        go_wp2
        go_roundw
        case rel =>
          refine ⟨i + 1, by omega, by go_num, m, n, l, HH.out.below HB2.out, HB.out.trans (HB2.out.mono HB.out.size), by rw [HLL.out]; omega, fun s hs => ?_, fun j hj => HOCC.out j (by omega), by omega⟩
          have := HIDS.out s hs
          omega
        case measure => simp [intOf]; omega
    · have hd : decide ((i : Int) < (many : Int)) = false := by simp; omega
      have hh2 := HubAt.new wo wo.heap.size (Nat.le_refl _)
      have hb2 := HB.out.alloc HB.out.size (.cells #[.map none] 36)
      have hzz : wo.heap.size ≤ (wo.alloc (.cells #[.map none] 36)).heap.size := by simp
      have HH2 := Lib.hid hh2
      have HB2 := Lib.hid hb2
      have HZZ := Lib.hid hzz
      clear hh2 hb2 hzz HH HX0
      by_cases hr : room = 1001
      · subst hr
        have HA := Lib.hid (adds_no _ wo.heap.size wo.heap.size 0 none [] (fR ((1001 : Nat) : Int)) HH2.out (Or.inl rfl) (by decide) HZZ.out (by omega) (fun _ => ⟨rfl, rfl⟩) (fun _ a ha => by cases ha) fR_bad)
        clear c2 c3
        go_wp2_with fail
        refine HA.out.mono ?_
        rintro e w2 ⟨rfl, hb3⟩
        have HB3 := Lib.hid (HB2.out.trans (hb3.mono HB2.out.size))
        clear hb3
        go_wp2_with fail
        refine (known_any _).mono ?_
        rintro e w4 ⟨rfl, hb4⟩
        have HB4 := Lib.hid (HB3.out.trans (hb4.mono HB3.out.size))
        clear hb4
        go_wp2
        go_ret
        exact ⟨rfl, HB4.out⟩
      · have hr1 : ¬ (1000 : Int) < (room : Int) := by omega
        have HA := Lib.hid (adds_new _ wo.heap.size wo.heap.size 0 none [] (fR (room : Int)) 0 HH2.out (Or.inl rfl) (by show 0 ≤ 1000000; omega) HZZ.out (by omega) (fun _ => ⟨rfl, rfl⟩) (fun _ a ha => by cases ha) (fR_valid h3 (by omega)) (by simp) free_zero)
        go_wp2_with fail
        refine HA.out.mono ?_
        rintro e w3 ⟨rfl, b, g, c, n', A, hT, hn'⟩
        have HUB := Lib.hid hT.hub
        have HB3 := Lib.hid (HB2.out.trans (((hT.wide HH2.out).below HH2.out HZZ.out).mono HB.out.size))
        have HBW : Hid (wo.heap.size ≤ w3.heap.size) := Lib.hid (Nat.le_trans HZZ.out hT.chg.size)
        clear hT hn' HA
        go_wp2
        go_loopw [11, 12] (fun x11 x12 wi => ∃ j : Nat, j ≤ events ∧ x12 = .int .i64 j ∧ LL w3 x11 wi j) (fun _ x12 _ => events - (intOf x12).toNat)
        case atStart => exact ⟨0, Nat.zero_le _, rfl, none, 0, [], rfl, World.ownsRow_nil _ _ _ _, rfl, (fun h hh => by cases hh), Below.refl _ _⟩
        case round =>
          obtain ⟨j, hj, rfl, A1, c1, hs, rfl, hown, hevs, hfr, hbl⟩ := hrel
          have HOWN := Lib.hid hown
          have HEVS := Lib.hid hevs
          have HFR := Lib.hid hfr
          have HBL := Lib.hid hbl
          clear hown hevs hfr hbl
          by_cases hjl : j < events
          · have hj0 : (0 : Int) ≤ (j : Int) := Int.natCast_nonneg _
            have hj1 : (j : Int) < (events : Int) := by omega
            have HO := Lib.hid (lawOf_any bK 4 wr (by unfold maxLen; decide))
            go_wp2_with fail
            refine HO.out.mono ?_
            rintro e w5 ⟨h, rfl, he, hok, hb5, hA⟩
            have HE := Lib.hid he
            have HK := Lib.hid hok
            have HB5 := Lib.hid hb5
            have HA5 := Lib.hid hA
            have HOW5 := Lib.hid (own_step HOWN.out hb5)
            have hz5 : w3.heap.size ≤ w5.heap.size := Nat.le_trans HBL.out.size hb5.size
            clear he hok hb5 hA HO
            simp only [Hv.v]
            go_wp2_with (first
              | (at_builtin; (refine wpList_app1_at w5 rfl (.tmp 75) (.tmp 77) 38 rfl w3.heap.size 30 6 72 _ info30 Try.underlying38 rfl (by omega) _ j _ h.cells rfl HOW5.out rfl (cells_one h) rfl (by unfold maxLen; omega) (by omega) hz5 ?_); intro v' w6 hown6 hg6 hat6))
            obtain ⟨A6, c6, rfl, _⟩ := own_shape hown6
            have HO6 := Lib.hid hown6
            have HG6 := Lib.hid hg6
            have HAT := Lib.hid hat6
            clear hown6 hg6 hat6
            go_roundw
            case rel =>
              have hC := Chg.of_row HG6.out
              have hobl : ∀ k, (Value.slice A1 j c1).ownBlock = some k → k < wr.heap.size := fun k hk => (HOWN.out.lt k hk).2
              refine ⟨j + 1, by omega, by go_num, A6, c6, hs ++ [h], rfl, ?_, ?_, ?_, (HBL.out.trans (HB5.out.mono HBL.out.size)).grown HG6.out hz5 (fun k hk => (HOW5.out.lt k hk).1)⟩
              · rw [ecells_app, show ecells [h] = h.cells by simp [ecells]]
                exact HO6.out
              · rw [show evs (hs ++ [h]) = evs hs ++ [h.e] by simp [evs], HEVS.out, HE.out, List.replicate_succ']
                rfl
              · intro x hx
                rcases List.mem_append.1 hx with hx | hx
                · obtain ⟨f1, f2⟩ := HFR.out x hx
                  refine ⟨(f1.below HB5.out).chg2 hC (fun a ha e => ?_), fun a ha e => ?_⟩
                  · rw [Option.mem_toList] at e
                    exact f2 a ha e
                  · rcases HAT.out with q | q
                    · rw [q] at e; exact f2 a ha e
                    · rw [q] at e
                      injection e with e
                      have := (f1.2 a ha).2
                      have := HB5.out.size
                      omega
                · simp only [List.mem_singleton] at hx
                  subst hx
                  have f1 := Fresh.of (lo := w3.heap.size) HK.out HA5.out HBL.out.size
                  refine ⟨f1.chg2 hC (fun a ha e => ?_), fun a ha e => ?_⟩
                  · rw [Option.mem_toList] at e
                    have := hobl _ e
                    have := (HA5.out a ha).1
                    omega
                  · rcases HAT.out with q | q
                    · rw [q] at e
                      have := hobl _ e
                      have := (HA5.out a ha).1
                      omega
                    · rw [q] at e
                      injection e with e
                      have := (HA5.out a ha).2
                      omega
            case measure => simp [intOf]; omega
          · have hje : j = events := by omega
            subst hje
            have hd2 : decide ((j : Int) < (j : Int)) = false := by simp
            have hub := HUB.out.below HBL.out
            obtain ⟨l1, hl1⟩ : ∃ l1, l1 = [] ++ [newSl ((0 : Nat) : Int) g (fR (room : Int)) A c] := ⟨_, rfl⟩
            rw [← hl1] at hub
            have hoL : ∀ k ∈ hubO wo.heap.size (some b) l1, k < w3.heap.size := by rw [hl1]; exact HUB.out.lt
            have hsl : ∀ s ∈ l1, s = newSl ((0 : Nat) : Int) g (fR (room : Int)) A c := fun s hs => by rw [hl1] at hs; simpa using hs
            have hlen : hs.length = j := by
              have h1 : (evs hs).length = j := by rw [HEVS.out]; simp
              simpa [evs] using h1
            have HP := Lib.hid (pub_any wr wo.heap.size wo.heap.size n' (some b) l1 hs A1 j c1 hub ⟨Reads.of_own HOWN.out, fun x hx => (HFR.out x hx).1.1⟩ (by omega)
              (fun x hx => by
                have h1 : x.e ∈ evs hs := List.mem_map.2 ⟨x, hx, rfl⟩
                rw [HEVS.out] at h1
                rw [(List.mem_replicate.1 h1).2]
                decide)
              (Nat.le_trans HBW.out HBL.out.size) (fun s hs => by rw [hsl s hs]; show 0 + j ≤ 1000000000; omega) (fun s hs => by rw [hsl s hs]; show 0 ≤ 1000000; omega)
              (fun _ a ha e => by
                subst ha
                have h1 := (HOWN.out.lt a.block rfl).1
                have := hoL _ e
                omega)
              (fun x hx _ a ha => by
                have h1 := (HFR.out x hx).1.2 a ha
                exact ⟨h1.2, fun e => by have := hoL _ e; omega⟩))
            have HHUB := Lib.hid hub
            have HL1 := Lib.hid hl1
            have HLEN := Lib.hid hlen
            have HB7 := Lib.hid (HB3.out.trans (HBL.out.mono (Nat.le_trans HB.out.size HBW.out)))
            clear hub hoL hsl hlen hl1
            go_wp2_with fail
            refine HP.out.mono ?_
            intro e w7 hp
            have hid0 : (newSl ((0 : Nat) : Int) g (fR (room : Int)) A c).id = 0 := rfl
            rcases hp with ⟨hbad, _⟩ | ⟨_, hlong, rfl, hb7⟩ | ⟨_, hshort, l', rfl, hT7, hrel7⟩
            · rw [rep_ok hs j HEVS.out] at hbad; cases hbad
            · have hev1 : (4096 : Int) < (j : Int) := by have := HLEN.out; omega
              have hub7 := HHUB.out.below hb7
              have hLS := lostL_yes w7 wo.heap.size wo.heap.size n' (some b) l1 (newSl ((0 : Nat) : Int) g (fR (room : Int)) A c) 0 hub7 (by rw [HL1.out]; simp)
              rw [hid0, show (((newSl ((0 : Nat) : Int) g (fR (room : Int)) A c).t.lost : Int) == 0) = true from rfl] at hLS
              have HLS := Lib.hid hLS
              have HB8 := Lib.hid (HB7.out.trans (hb7.mono HB7.out.size))
              clear hub7 hLS hb7 hid0
              go_wp2_with fail
              refine HLS.out.mono ?_
              rintro e w8 ⟨rfl, rfl⟩
              go_wp2_with fail
              refine (known_any _).mono ?_
              rintro e w9 ⟨rfl, hb9⟩
              have HB9 := Lib.hid (HB8.out.trans (hb9.mono HB8.out.size))
              clear hb9
              go_wp2
              go_ret
              exact ⟨rfl, HB9.out⟩
            · have hev1 : ¬ (4096 : Int) < (j : Int) := by have := HLEN.out; omega
              rw [HL1.out] at hrel7
              obtain ⟨l2, s1, l3, rfl, r0, r1, r2⟩ := Rel.split (a := []) hrel7
              have e0 : l2 = [] := by cases l2 with | nil => rfl | cons _ _ => exact r0.elim
              have e1 : l3 = [] := by cases l3 with | nil => rfl | cons _ _ => exact r2.elim
              subst e0 e1
              have hroom : (fR (room : Int)).room.toNat = room := by show ((room : Int)).toNat = room; omega
              have hpr := pubs_rep (evOf bK 4) ⟨⟨#[]⟩, [], room, false, A, c⟩ (f_fit room A c) rfl j ⟨⟨⟨#[]⟩, [], room, false, A, c⟩, [], 0⟩ rfl (Nat.zero_le _)
              have habs : (newSl ((0 : Nat) : Int) g (fR (room : Int)) A c).t.abs = ⟨⟨⟨#[]⟩, [], room, false, A, c⟩, [], 0⟩ := by
                unfold newSl Wt.abs
                rw [hroom]
                rfl
              have htk : taken l1 (evs hs) = room := by
                rw [HL1.out, HEVS.out]
                simp only [taken, List.nil_append, List.map_cons, List.map_nil, List.sum_cons, List.sum_nil, habs, hpr.1]
                simp
                omega
              have hlo : s1.t.lost = j - room := by
                have := congrArg Wa.lost r1.2.2
                rw [HEVS.out, habs, hpr.2] at this
                simpa [Wt.abs] using this
              have hs1 : s1.id = 0 := r1.1
              have hLS := lostL_yes w7 wo.heap.size wo.heap.size n' (some b) _ s1 ((j : Int) - (room : Int)) hT7.hub (by simp)
              rw [hs1, show (((s1.t.lost : Nat) : Int) == ((j : Int) - (room : Int))) = true by rw [hlo]; simp; omega] at hLS
              have HLS := Lib.hid hLS
              have HB8 := Lib.hid (HB7.out.trans (((hT7.wide HHUB.out).below HHUB.out (Nat.le_trans HBW.out HBL.out.size)).mono HB.out.size))
              rw [htk]
              clear hT7 hrel7 r0 r1 r2 hroom hpr habs htk hlo hs1 hLS hid0
              go_wp2_with fail
              refine HLS.out.mono ?_
              rintro e w8 ⟨rfl, rfl⟩
              go_wp2_with fail
              refine (known_any _).mono ?_
              rintro e w9 ⟨rfl, hb9⟩
              have HB9 := Lib.hid (HB8.out.trans (hb9.mono HB8.out.size))
              clear hb9
              go_wp2
              go_ret
              exact ⟨rfl, HB9.out⟩
theorem fulls_law (many room events : Int) (w : World) :
    Calls Try.prog 4 #[.int .i64 many, .int .i64 room, .int .i64 events] w fun e w' => e = .returned (.bool true) ∧ Below w.heap.size w w' := by
  by_cases h : many < 63 ∨ 65 < many ∨ room < 999 ∨ 1001 < room ∨ events < 4094 ∨ 4098 < events
  · exact fulls_out many room events w h
  · obtain ⟨a, rfl⟩ : ∃ a : Nat, many = (a : Int) := ⟨many.toNat, by omega⟩
    obtain ⟨b, rfl⟩ : ∃ b : Nat, room = (b : Int) := ⟨room.toNat, by omega⟩
    obtain ⟨c, rfl⟩ : ∃ c : Nat, events = (c : Int) := ⟨events.toNat, by omega⟩
    exact fulls_in a b c w (by omega) (by omega) (by omega) (by omega) (by omega) (by omega)

set_option maxRecDepth 100000 in
theorem fulls_lifted (os : Os) (started : os.Started) (H : Type) (enc : TypeId × Value → H) :
    ReturnsInHanded {} Try.checked os 4 .any (Rows.watchFullsSpec.pre6 enc Try.prog Try.f4 Rows.watchFullsRow.domain false) (Rows.watchFullsSpec.post enc Try.prog Try.f4 false true false false) := by
  refine returnsInHanded_of_change_sized (C := Try.checked) own started (by kernel_rfl) Try.func4
    (ChangeSpec.witness6 (enc := enc) (C := Try.checked) false ⟨#[], #[.int .i64 0, .int .i64 0, .int .i64 0], []⟩ 8 (by kernel_rfl) (by kernel_rfl) (by kernel_rfl) (by kernel_rfl)) ?_
  intro W base args ds gs before hval hW _ _ _
  have hval : ∀ (j : Nat) t v, Try.f4.params[j]? = some t → args[j]? = some v → Value.okWide Try.prog W .any base t v := hval
  have hW : DataW.Whole enc Try.prog Try.f4.params.toList Rows.watchFullsSpec.vars false W args.toList ds gs before := hW
  have hW0 := hW
  obtain ⟨p, q, hA, _, rfl, _, _⟩ := hW
  rw [Try.params4] at hA hval
  obtain ⟨v0, v1, v2, d0, d1, d2, p0, p1, p2, rfl, rfl, rfl, h0, h1, h2⟩ := trodAll_three hA
  obtain ⟨many, rfl, rfl, rfl, wm⟩ := open_int Try.underlying3 (hval 0 3 v0 rfl rfl) h0
  obtain ⟨room, rfl, rfl, rfl, wr⟩ := open_int Try.underlying3 (hval 1 3 v1 rfl rfl) h1
  obtain ⟨events, rfl, rfl, rfl, we⟩ := open_int Try.underlying3 (hval 2 3 v2 rfl rfl) h2
  refine (fulls_law many room events W).mono fun e W' ⟨he, hb⟩ => ?_
  subst he
  refine ⟨_, rfl, law_done rfl (by kernel_rfl) (by decide +kernel) (fun ds hl => ?_) hW0 hb⟩
  match ds, hl with
  | [_, _, _], _ => rfl

theorem fulls_holds : Rows.WatchFullsSaid :=
  OpenClaim.holds_of_wide 4 Try.f4 rfl rfl rfl rfl rfl rfl rfl ⟨rfl, rfl, rfl, rfl, rfl⟩ rfl rfl rfl rfl rfl (by kernel_rfl) Try.func4 (by kernel_rfl)
    (of_decide_eq_true (by kernel_rfl)) (by unfold Func.isWrapper; first | (rw [if_pos (by decide +kernel)]; kernel_rfl) | (rw [if_neg (by decide +kernel)]; exact ⟨rfl, rfl⟩))
    (fun os started H enc _ => fulls_lifted os started H enc)

#print axioms fulls_holds
end Go.Proofs.Ytfimgkjdfjlkhaa
