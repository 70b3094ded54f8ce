import Derived.Test.YthclmacnmbmepaaWj
namespace Go.Proofs.Ythclmacnmbmepaa
open Go.RowKit Bel Go.Maps Go.Shelf

theorem turnsP_err (A : Option Addr) (n c : Nat) (s e : Int) (w : World) (he : allowedE n 4096 s = e) (h0 : e ≠ 0) :
    Calls Try.prog 13 #[.slice A n c, .int .i64 s] w fun r w' => r = .returned (.tuple #[.slice none 0 0, .int .i64 e]) ∧ w = w' := by
  have HA := Lib.hid (fun W => allowed_any A n c 4096 s W)
  rw [he] at HA
  have hb : (e != 0) = true := by simpa using h0
  clear h0 he
  go_enter Try.func13, Try.ntmps13
  go_wp2_with (go_at_call 29; refine (HA.out _).mono ?_; rintro e w' ⟨rfl, rfl⟩)
  go_ret2
  exact ⟨rfl, rfl⟩

theorem hitsP_err (A : Option Addr) (n c : Nat) (s e : Int) (w : World) (he : allowedE n 4096 s = e) (h0 : e ≠ 0) :
    Calls Try.prog 14 #[.slice A n c, .int .i64 s] w fun r w' => r = .returned (.tuple #[.int .i64 0, .int .i64 e]) ∧ Below w.heap.size w w' := by
  have HT := Lib.hid (turnsP_err A n c s e w he h0)
  have HC := Lib.hid (fun W => count_any none 0 0 [] W Reads.none_ (by omega))
  clear h0 he
  go_enter Try.func14, Try.ntmps14
  go_wp2_with (first
    | (go_at_call 13; refine (HT.out).mono ?_; rintro e w' ⟨rfl, rfl⟩)
    | (go_at_call 38; refine (HC.out _).mono ?_; rintro e w' ⟨rfl, hb⟩))
  go_ret2
  exact ⟨rfl, hb⟩

theorem blk_reads {W : World} {g n : Nat} {t : TypeId} {size : Nat} {xs : List Value} (h : Blk W g t xs.toArray) (hl : xs.length = n * size) : Reads W W.heap.size size (some ⟨g, 0, none⟩) n xs := by
  refine ⟨hl, fun _ => ⟨_, rfl, h.lt, fun j u hj => ?_⟩⟩
  rw [add_spot _ _ rfl]
  simp only [Nat.zero_add]
  rw [h.cell, List.getElem?_toArray]
  exact hj

theorem turnsL_len (s : Nat) : ∀ (t S : List Int), (turnsL s t S).length = t.length := by
  intro t
  induction t with
  | nil => intro S; rfl
  | cons r t ih =>
    intro S
    unfold turnsL
    split
    · simp [ih]
    · split <;> simp [ih]

/-- 'Hits' of the program. -/
theorem hitsP_any (A : Option Addr) (n c s : Nat) (tr : List Int) (w : World) (h : Reads w w.heap.size 1 A n (ints .u32 tr)) (hw : ∀ x ∈ tr, (Lit.int .u32 x).wf = true) (hn : n ≤ 4096) (hs1 : 1 ≤ s) (hs2 : s ≤ 1024) :
    Calls Try.prog 14 #[.slice A n c, .int .i64 s] w fun e w' => e = .returned (.tuple #[.int .i64 (hits (turnsL s tr [])), .int .i64 0]) ∧ Below w.heap.size w w' := by
  have HL := Lib.hid h.int_len
  have HT := Lib.hid (turnsP_any A n c s tr w h hw hn hs1 hs2)
  go_enter Try.func14, Try.ntmps14
  go_wp2_with fail
  refine (HT.out).mono ?_
  rintro e w1 ⟨g, rfl, hg, hblk, hb1⟩
  have HC := Lib.hid (count_any (some ⟨g, 0, none⟩) n n (turnsL s tr []) w1 (blk_reads hblk (by rw [tcells_len, turnsL_len, HL.out])) (by omega))
  have HB := Lib.hid hb1
  clear hblk hb1
  go_wp2_with (go_at_call 38; refine (HC.out).mono ?_; rintro e w' ⟨rfl, hb⟩)
  go_ret2
  exact ⟨rfl, HB.out.trans (hb.mono HB.out.size)⟩

/-- 'append(s, x)' of one element, the block of the element by its number. -/
theorem wpList_app1' {P : Program} {ops : Array Oper} {rest : List Oper} {o : Oper} {a : Act} {Q : Exit → Act → World → Prop} (w0 : World) (g0 : Nat) (hg0 : w0.heap.size = g0) (hgd : o.guard = none) (s x : Operand) (t : TypeId)
    (ho : o.op = .call { callee := .builtin .append, args := #[s, x], argTypes := #[t, t] })
    (base : Nat) (e : TypeId) (size bytes : Nat) (z : Value) (hinfo : (P.info? e).map (fun i => (i.zero, i.size, i.bytes)) = some (some z, size, bytes)) (ht : P.underlying t = some (.slice e)) (hzs : z.cells.size = size) (hsz : 0 < size)
    (v : Value) (n : Nat) (xs cs : List Value) (hs : a.eval s = v) (hown : w0.ownsRow base e size v n xs) (hcs : cs.length = size) (h1 : ∀ u ∈ cs, u.oneCell' = true)
    (hx : a.eval x = .slice (some ⟨g0, 0, none⟩) 1 1) (h63 : n + 1 ≤ maxLen) (hbytes : (n + 1) * bytes ≤ 140737488355328) (hbase : base ≤ w0.heap.size)
    (h : ∀ v' w', w'.ownsRow base e size v' (n + 1) (xs ++ cs) → w0.grownBy w' v.ownBlock → wpList P ops Q rest (a.put o.dst v') w') : wpList P ops Q (o :: rest) a (w0.alloc (.cells cs.toArray e)) := by
  subst hg0
  exact wpList_app1 w0 hgd s x t ho base e size bytes z hinfo ht hzs hsz v n xs cs hs hown hcs h1 hx h63 hbytes hbase h

theorem own_base {w : World} {B B' e size n : Nat} {v : Value} {xs : List Value} (h : w.ownsRow B' e size v n xs) (hB : B ≤ B') : w.ownsRow B e size v n xs := by
  refine ⟨h.1, ?_⟩
  rcases h.2 with h2 | ⟨g, cap, cur, hv, hb, rest⟩
  · exact .inl h2
  · exact .inr ⟨g, cap, cur, hv, Nat.le_trans hB hb, rest⟩

/-- What the reference's 'Turns' keeps from round to round. -/
structure RT (w0 W : World) (tr : List Int) (s k : Nat) (vO : Value) (os : List Turn) (vK : Value) (S : List Int) : Prop where
  below : Below w0.heap.size w0 W
  out : W.ownsRow w0.heap.size 50 3 vO os.length (tcells os)
  keys : W.ownsRow w0.heap.size 45 1 vK S.length (ints .u32 S)
  len : os.length = k
  turns : turnsL s tr [] = os ++ turnsL s (tr.drop k) S
  room : S.length ≤ s
  nodup : S.Nodup

section
variable {w0 W W' : World} {tr : List Int} {s k : Nat} {vO vK : Value} {os : List Turn} {S : List Int}
theorem RT.step (h : RT w0 W tr s k vO os vK S) (hb : Below W.heap.size W W') : RT w0 W' tr s k vO os vK S :=
  ⟨h.below.trans (hb.mono h.below.size), own_step h.out hb, own_step h.keys hb, h.len, h.turns, h.room, h.nodup⟩
theorem RT.alloc (h : RT w0 W tr s k vO os vK S) (o : Obj) : RT w0 (W.alloc o) tr s k vO os vK S := h.step ((Below.refl _ _).alloc (Nat.le_refl _) _)
end
theorem miss_next {tr : List Int} {i : Nat} {x y : Int} : (nxt tr (i + 1) x < nxt tr (i + 1) y ↔ (tr.drop (i + 1)).idxOf x < (tr.drop (i + 1)).idxOf y) := by unfold nxt; omega
/-- The best key among the first ones. -/
def bstTo (t S : List Int) (j : Nat) : Int := bst t (S.take j)
theorem bstTo_one {t S : List Int} (h : 0 < S.length) : bstTo t S 1 = nth S 0 := by
  unfold bstTo
  rw [List.take_succ_eq_append_getElem h, nth_eq h]; rfl
theorem bstTo_succ {t S : List Int} {j : Nat} (h1 : 1 ≤ j) (h : j < S.length) :
    bstTo t S (j + 1) = if t.idxOf (bstTo t S j) < t.idxOf (nth S j) ∨ (t.idxOf (nth S j) = t.idxOf (bstTo t S j) ∧ nth S j < bstTo t S j) then nth S j else bstTo t S j := by
  unfold bstTo
  rw [List.take_succ_eq_append_getElem h, bst_snoc, nth_eq h]
  intro hc
  have := congrArg List.length hc
  rw [List.length_take, Nat.min_eq_left (by omega)] at this
  simp at this; omega

set_option maxRecDepth 100000 in
set_option maxHeartbeats 2000000 in
/-- 'Turns' of the reference. -/
theorem rturns_any (A : Option Addr) (n c s : Nat) (tr : List Int) (w : World) (h : Reads w w.heap.size 1 A n (ints .u32 tr)) (hn : n ≤ 4096) (hs1 : 1 ≤ s) (hs2 : s ≤ 1024) :
    Calls Try.prog 16 #[.slice A n c, .int .i64 s] w fun e w' => ∃ v, e = .returned v ∧ w'.ownsRow w.heap.size 50 3 v n (tcells (turnsL s tr [])) ∧ Below w.heap.size w w' := by
  have HLN := Lib.hid h.int_len
  go_enter Try.func16, Try.ntmps16
  go_wp2
  go_loopw [5, 6, 7] (fun vO vK x wr => ∃ (k : Nat) (os : List Turn) (S : List Int), k ≤ n ∧ x = .int .i64 k ∧ RT w wr tr s k vO os vK S) (fun _ _ x _ => n - (intOf x).toNat)
  case atStart => exact ⟨0, [], [], Nat.zero_le _, rfl, Below.refl _ _, World.ownsRow_nil _ _ _ _, World.ownsRow_nil _ _ _ _, rfl, rfl, Nat.zero_le _, List.nodup_nil⟩
  case round =>
    obtain ⟨k, os, S, hk, rfl, hRT⟩ := hrel
    have hroom := hRT.room
    by_cases hlt : k < n
    · have hkt : Hid (k < tr.length) := by rw [HLN.out]; exact hlt
      have hr := h.below hRT.below
      obtain ⟨AK, cK, rfl, hrK⟩ := own_shape hRT.keys
      have HAS := Lib.hid (has_any AK S.length cK (nth tr k) S wr _ hrK (by omega))
      obtain ⟨b, o, rfl, hbw, hc⟩ := hr.int_at hlt
      have HR := Lib.hid h
      have HRT := Lib.hid hRT
      have HRR := Lib.hid hr
      have HRK := Lib.hid hrK
      have hnn : w.heap.size ≤ wr.heap.size := hRT.below.size
      have hol : os.length ≤ 4096 := by rw [hRT.len]; omega
      have hbr : b < wr.heap.size := by omega
      have hout := hRT.out
      have hkeys := hRT.keys
      clear h hRT hr hrK
      by_cases hm : nth tr k ∈ S
      · have hd : decide (nth tr k ∈ S) = true := by simpa using hm
        rw [hd] at HAS
        have HM := Lib.hid hm
        clear hm hd
        go_wp2_with (first
          | (go_at_call 39; refine (HAS.out).mono ?_; rintro e w' ⟨rfl, rfl⟩)
          | (at_builtin; go_must (refine wpList_app1 wr rfl (.tmp 25) (.tmp 27) 31 rfl w.heap.size 50 3 8 _ info50 Try.underlying31 rfl (by omega) _ _ _ [.bool true, .bool false, .int .u32 0] rfl hout rfl (by simp [Value.oneCell']) rfl (by unfold maxLen; omega) (by omega) hnn ?_); intro v' w1 hown' hg'))
        go_roundw
        case rel =>
          have h0 := HRT.out
          have hlt' : ∀ j, u5.ownBlock = some j → w.heap.size ≤ j := fun j hj => (h0.out.lt j hj).1
          refine ⟨k + 1, os ++ [⟨true, false, 0⟩], S, by omega, by go_num, h0.below.grown hg' h0.below.size hlt', ?_, h0.keys.kept hg' (own_far h0.keys h0.out (by decide)), by simp [h0.len], ?_, h0.room, h0.nodup⟩
          · rw [tcells_app, List.length_append]; exact hown'
          · rw [h0.turns, drop_at hkt.out, turnsL, if_pos HM.out]; simp
        case measure => simp [intOf]; omega
      · have hd : decide (nth tr k ∈ S) = false := by simpa using hm
        rw [hd] at HAS
        have HM := Lib.hid hm
        clear hm hd hout hkeys
        have RX := (HRT.out).alloc (.cells #[.bool false, .bool false, .int .u32 0] 50)
        have BX := Blk.new wr 50 #[.bool false, .bool false, .int .u32 0]
        by_cases hfull : S.length = s
        · have hbb : ((S.length : Int) == (s : Int)) = true := by rw [beq_iff_eq]; omega
          have HF := Lib.hid hfull
          have hS1 : 1 ≤ S.length := by omega
          obtain ⟨gK, cK', e5, hgK, _⟩ := RX.keys.form (by omega)
          injection e5 with e5 e6 e7
          subst e5 e7
          have hkc : ∀ j, j < S.length → (wr.alloc (.cells #[.bool false, .bool false, .int .u32 0] 50)).cell? ⟨gK, j, none⟩ = some (.int .u32 (nth S j)) := by
            intro j hj
            obtain ⟨b3, o3, e3, _, cc⟩ := (Reads.of_own RX.keys).int_at hj
            injection e3 with e3
            injection e3 with e3 e4
            subst e3 e4
            rwa [Nat.zero_add] at cc
          have hk0 := hkc 0 hS1
          have HKC := Lib.hid hkc
          have HX := Lib.hid RX
          have HBX := Lib.hid BX
          have hrX : Reads (wr.alloc (.cells #[.bool false, .bool false, .int .u32 0] 50)) w.heap.size 1 (some ⟨b, o, none⟩) n (ints .u32 tr) := HRR.out.alloc hnn _
          have HRX := Lib.hid hrX
          have hE : ((k + 1 : Nat) : Int) = (k : Int) + 1 := by omega
          have HE := Lib.hid hE
          clear hfull RX BX hkc hrX hE e6
          go_wp2_with (go_at_call 39; refine (HAS.out).mono ?_; rintro e w' ⟨rfl, rfl⟩)
          go_loop [9, 10] (fun y x => ∃ j : Nat, 1 ≤ j ∧ j ≤ S.length ∧ x = .int .i64 j ∧ y = .int .u32 (bstTo (tr.drop (k + 1)) S j)) (fun _ x => S.length - (intOf x).toNat)
          case atStart => exact ⟨1, Nat.le_refl _, hS1, rfl, by rw [bstTo_one (by omega)]⟩
          case round =>
            obtain ⟨j, hj1, hj, rfl, rfl⟩ := hrel
            by_cases hjl : j < S.length
            · have hkj := HKC.out j hjl
              have n1 := next_any (some ⟨b, o, none⟩) n c (k + 1) (nth S j) tr _ _ HRX.out (by omega) (by omega)
              have n2 := next_any (some ⟨b, o, none⟩) n c (k + 1) (bstTo (tr.drop (k + 1)) S j) tr _ _ HRX.out (by omega) (by omega)
              rw [HE.out] at n1 n2
              have HN1 := Lib.hid n1
              have HN2 := Lib.hid n2
              have hsucc := bstTo_succ (t := tr.drop (k + 1)) hj1 hjl
              clear n1 n2
              by_cases q1 : nxt tr (k + 1) (bstTo (tr.drop (k + 1)) S j) < nxt tr (k + 1) (nth S j)
              · have HQ := Lib.hid (show bstTo (tr.drop (k + 1)) S (j + 1) = nth S j by rw [hsucc, if_pos (.inl (by unfold nxt at q1; omega))])
                have q1' : (nxt tr (k + 1) (bstTo (tr.drop (k + 1)) S j) : Int) < (nxt tr (k + 1) (nth S j) : Int) := by omega
                clear hsucc q1
                go_wp2_with (first
                  | (go_at_call 31; ((with_reducible refine (HN1.out).mono ?_); rintro e w' ⟨rfl, rfl⟩))
                  | (go_at_call 31; ((with_reducible refine (HN2.out).mono ?_); rintro e w' ⟨rfl, rfl⟩)))
                go_round
                case rel => exact ⟨j + 1, by omega, by omega, by go_num, by rw [HQ.out]⟩
                case measure => simp [intOf]; omega
              · by_cases q2 : nxt tr (k + 1) (nth S j) = nxt tr (k + 1) (bstTo (tr.drop (k + 1)) S j)
                · have q1' : (nxt tr (k + 1) (nth S j) : Int) ≤ (nxt tr (k + 1) (bstTo (tr.drop (k + 1)) S j) : Int) := by omega
                  have q2' : ((nxt tr (k + 1) (nth S j) : Int) == (nxt tr (k + 1) (bstTo (tr.drop (k + 1)) S j) : Int)) = true := by rw [beq_iff_eq]; omega
                  by_cases q3 : nth S j < bstTo (tr.drop (k + 1)) S j
                  · have HQ := Lib.hid (show bstTo (tr.drop (k + 1)) S (j + 1) = nth S j by rw [hsucc, if_pos (.inr ⟨by unfold nxt at q2; omega, q3⟩)])
                    clear hsucc q1 q2
                    go_wp2_with (first
                      | (go_at_call 31; ((with_reducible refine (HN1.out).mono ?_); rintro e w' ⟨rfl, rfl⟩))
                      | (go_at_call 31; ((with_reducible refine (HN2.out).mono ?_); rintro e w' ⟨rfl, rfl⟩)))
                    go_round
                    case rel => exact ⟨j + 1, by omega, by omega, by go_num, by rw [HQ.out]⟩
                    case measure => simp [intOf]; omega
                  · have HQ := Lib.hid (show bstTo (tr.drop (k + 1)) S (j + 1) = bstTo (tr.drop (k + 1)) S j by rw [hsucc, if_neg (by unfold nxt at q1; intro hc; rcases hc with hc | hc <;> omega)])
                    clear hsucc q1 q2
                    go_wp2_with (first
                      | (go_at_call 31; ((with_reducible refine (HN1.out).mono ?_); rintro e w' ⟨rfl, rfl⟩))
                      | (go_at_call 31; ((with_reducible refine (HN2.out).mono ?_); rintro e w' ⟨rfl, rfl⟩)))
                    go_round
                    case rel => exact ⟨j + 1, by omega, by omega, by go_num, by rw [HQ.out]⟩
                    case measure => simp [intOf]; omega
                · have HQ := Lib.hid (show bstTo (tr.drop (k + 1)) S (j + 1) = bstTo (tr.drop (k + 1)) S j by rw [hsucc, if_neg (by unfold nxt at q1 q2; intro hc; rcases hc with hc | hc <;> omega)])
                  have q1' : (nxt tr (k + 1) (nth S j) : Int) ≤ (nxt tr (k + 1) (bstTo (tr.drop (k + 1)) S j) : Int) := by omega
                  have q2' : ((nxt tr (k + 1) (nth S j) : Int) == (nxt tr (k + 1) (bstTo (tr.drop (k + 1)) S j) : Int)) = false := by rw [beq_eq_false_iff_ne]; omega
                  clear hsucc q1 q2
                  go_wp2_with (first
                    | (go_at_call 31; ((with_reducible refine (HN1.out).mono ?_); rintro e w' ⟨rfl, rfl⟩))
                    | (go_at_call 31; ((with_reducible refine (HN2.out).mono ?_); rintro e w' ⟨rfl, rfl⟩)))
                  go_round
                  case rel => exact ⟨j + 1, by omega, by omega, by go_num, by rw [HQ.out]⟩
                  case measure => simp [intOf]; omega
            · obtain rfl : j = S.length := by omega
              have hbst : bstTo (tr.drop (k + 1)) S S.length = bst (tr.drop (k + 1)) S := by unfold bstTo; rw [List.take_length]
              rw [hbst]
              clear hbst
              have x0 := HBX.out.cell 0
              have x1 := HBX.out.cell 1
              have x2 := HBX.out.cell 2
              have f0 := HBX.out.frozen 0
              have f1 := HBX.out.frozen 1
              have f2 := HBX.out.frozen 2
              simp only [List.getElem?_toArray, List.getElem?_cons_zero, List.getElem?_cons_succ] at x0 x1 x2
              have RY := (HRT.out).alloc (.cells #[.bool false, .bool true, .int .u32 (bst (tr.drop (k + 1)) S)] 50)
              have BY := Blk.new wr 50 #[.bool false, .bool true, .int .u32 (bst (tr.drop (k + 1)) S)]
              have hWY : (wr.alloc (.cells #[.bool false, .bool true, .int .u32 (bst (tr.drop (k + 1)) S)] 50)).heap.size = wr.heap.size + 1 := by simp
              have HWO := Lib.hid (without_any (some ⟨gK, 0, none⟩) S.length cK (bst (tr.drop (k + 1)) S) S _ (Reads.of_own RY.keys) (by omega))
              have HRY := Lib.hid RY
              have HBY := Lib.hid BY
              have HWY := Lib.hid hWY
              clear RY BY hWY x0 x1 x2
              have x0 := HBX.out.cell 0
              have x1 := HBX.out.cell 1
              have x2 := HBX.out.cell 2
              simp only [List.getElem?_toArray, List.getElem?_cons_zero, List.getElem?_cons_succ] at x0 x1 x2
              go_wp2_with fail
              refine (HWO.out).mono ?_
              rintro e w6 ⟨v6, rfl, hown6, hb6⟩
              clear x0 x1 x2 f0 f1 f2 hk0 HBX HKC
              have R6 := HRY.out.step hb6
              have B6 := HBY.out.below hb6 HBY.out.lt
              have hown6' := own_base hown6 (B := w.heap.size) (by rw [HWY.out]; omega)
              have hne6 : v6.ownBlock = none ∨ v6.ownBlock ≠ u5.ownBlock := own_far hown6' R6.out (by decide)
              have hbm := bst_mem (t := tr.drop (k + 1)) (S := S) (by intro e; subst e; simp at hS1)
              have hwl := wo_length HRT.out.nodup hbm
              have hn6 : w.heap.size ≤ w6.heap.size := R6.below.size
              have hbr6 : b < w6.heap.size := by omega
              obtain ⟨b3, o3, e3, _, hc6⟩ := (HR.out.below R6.below).int_at hlt
              injection e3 with e3
              injection e3 with e3 e4
              subst e3 e4
              have HR6 := Lib.hid R6
              have HB6 := Lib.hid B6
              have HO6 := Lib.hid hown6'
              have HWL := Lib.hid hwl
              have hle6 : (wo S (bst (tr.drop (k + 1)) S)).length ≤ 1024 := by omega
              clear R6 B6 hown6 hb6 hwl hc HWO HRY HBY
              go_wp2_with (first
                | (at_builtin; refine wpList_app1 w6 rfl (.tmp 80) (.tmp 85) 22 rfl w.heap.size 45 1 4 _ info45 Try.underlying22 rfl (by omega) v6 _ _ [.int .u32 (nth tr k)] rfl hown6' rfl (by simp [Value.oneCell']) rfl (by unfold maxLen; omega) (by omega) hn6 ?_; intro v1 w1 hown1 hg1; have hout1 := HR6.out.out.kept hg1 (own_far HR6.out.out hown6' (by decide)); have hn1 := Nat.le_trans hn6 hg1.size; have hx1 := HB6.out.grown hg1 (blk_far HB6.out hown6' (by decide)); have x0 := hx1.cell 0; have x1 := hx1.cell 1; have x2 := hx1.cell 2; simp only [List.getElem?_toArray, List.getElem?_cons_zero, List.getElem?_cons_succ] at x0 x1 x2)
                | (at_builtin; go_must (refine wpList_app1 w1 rfl (.tmp 87) (.tmp 89) 31 rfl w.heap.size 50 3 8 _ info50 Try.underlying31 rfl (by omega) _ _ _ [.bool false, .bool true, .int .u32 (bst (tr.drop (k + 1)) S)] rfl hout1 rfl (by simp [Value.oneCell']) rfl (by unfold maxLen; omega) (by omega) hn1 ?_); intro v2 w2 hown2 hg2))
              go_roundw
              case rel =>
                have h0 := HR6.out
                have hlt1 : ∀ j, v6.ownBlock = some j → w.heap.size ≤ j := fun j hj => (hown6'.lt j hj).1
                have hlt2 : ∀ j, u5.ownBlock = some j → w.heap.size ≤ j := fun j hj => (hout1.lt j hj).1
                have hb1 := h0.below.grown hg1 h0.below.size hlt1
                have hrw : nth tr k ∉ wo S (bst (tr.drop (k + 1)) S) := fun h => HM.out (mem_wo.1 h).1
                refine ⟨k + 1, os ++ [⟨false, true, bst (tr.drop (k + 1)) S⟩], wo S (bst (tr.drop (k + 1)) S) ++ [nth tr k], by omega, by go_num, hb1.grown hg2 hb1.size hlt2, ?_, ?_, by simp [h0.len], ?_, by have := HF.out; have := HWL.out; simp; omega, snoc_nodup (wo_nodup h0.nodup) hrw⟩
                · rw [tcells_app, List.length_append]; exact hown2
                · rw [ints_snoc, List.length_append]
                  exact hown1.kept hg2 (own_far hown1 hout1 (by decide))
                · have := HF.out
                  rw [h0.turns, drop_at hkt.out, turnsL, if_neg HM.out, if_pos this]; simp
              case measure => simp [intOf]; omega
        · have hbb : ((S.length : Int) == (s : Int)) = false := by rw [beq_eq_false_iff_ne]; omega
          have HF := Lib.hid hfull
          have hkeys := RX.keys
          have hnx : w.heap.size ≤ (wr.alloc (.cells #[.bool false, .bool false, .int .u32 0] 50)).heap.size := RX.below.size
          have HX := Lib.hid RX
          have HBX := Lib.hid BX
          clear hfull RX BX
          go_wp2_with (first
            | (go_at_call 39; refine (HAS.out).mono ?_; rintro e w' ⟨rfl, rfl⟩)
            | (at_builtin; refine wpList_app1' (wr.alloc (.cells #[.bool false, .bool false, .int .u32 0] 50)) (wr.heap.size + 1) (by simp) rfl (.tmp 80) (.tmp 85) 22 rfl w.heap.size 45 1 4 _ info45 Try.underlying22 rfl (by omega) _ _ _ [.int .u32 (nth tr k)] rfl hkeys rfl (by simp [Value.oneCell']) rfl (by unfold maxLen; omega) (by omega) hnx ?_; intro v1 w1 hown1 hg1; have hout1 := HX.out.out.kept hg1 (own_far HX.out.out HX.out.keys (by decide)); have hn1 := Nat.le_trans hnx hg1.size; have hx1 := HBX.out.grown hg1 (blk_far HBX.out HX.out.keys (by decide)); have x0 := hx1.cell 0; have x1 := hx1.cell 1; have x2 := hx1.cell 2; simp only [List.getElem?_toArray, List.getElem?_cons_zero, List.getElem?_cons_succ] at x0 x1 x2)
            | (at_builtin; go_must (refine wpList_app1 w1 rfl (.tmp 87) (.tmp 89) 31 rfl w.heap.size 50 3 8 _ info50 Try.underlying31 rfl (by omega) _ _ _ [.bool false, .bool false, .int .u32 0] rfl hout1 rfl (by simp [Value.oneCell']) rfl (by unfold maxLen; omega) (by omega) hn1 ?_); intro v2 w2 hown2 hg2))
          go_roundw
          case rel =>
            have h0 := HX.out
            have hlt1 : ∀ j, (Value.slice AK S.length cK).ownBlock = some j → w.heap.size ≤ j := fun j hj => (h0.keys.lt j hj).1
            have ho1 := h0.out.kept hg1 (own_far h0.out h0.keys (by decide))
            have hlt2 : ∀ j, u5.ownBlock = some j → w.heap.size ≤ j := fun j hj => (ho1.lt j hj).1
            have hb1 := h0.below.grown hg1 h0.below.size hlt1
            refine ⟨k + 1, os ++ [⟨false, false, 0⟩], S ++ [nth tr k], by omega, by go_num, hb1.grown hg2 hb1.size hlt2, ?_, ?_, by simp [h0.len], ?_, by have := HF.out; simp; omega, snoc_nodup h0.nodup HM.out⟩
            · rw [tcells_app, List.length_append]; exact hown2
            · rw [ints_snoc, List.length_append]
              exact hown1.kept hg2 (own_far hown1 ho1 (by decide))
            · have := HF.out
              rw [h0.turns, drop_at hkt.out, turnsL, if_neg HM.out, if_neg this]; simp
          case measure => simp [intOf]; omega
    · have hos := hRT.turns
      have hol := hRT.len
      rw [List.drop_eq_nil_of_le (by rw [HLN.out]; omega)] at hos
      have HOS := Lib.hid hos
      have HOL := Lib.hid hol
      have HRT := Lib.hid hRT
      obtain rfl : k = n := by omega
      clear hos hRT hol
      go_wp2
      go_ret
      refine ⟨_, rfl, ?_, HRT.out.below⟩
      have := HRT.out.out
      rw [HOL.out] at this
      rw [HOS.out]
      simpa [turnsL] using this
end Go.Proofs.Ythclmacnmbmepaa
