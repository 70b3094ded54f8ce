import Derived.Test.YthclmacnmbmepaaWl
import Derived.Maps.RangeWalk
import Derived.Maps.OwnOps
import Derived.Maps.OwnSet
namespace Go.Proofs.Ythclmacnmbmepaa
open Go.RowKit Bel Go.Maps Go.Shelf

/-- Block b is a set of keys, of at most n entries. -/
def SetM (w : World) (b n : Nat) (S : List Int) : Prop :=
  ∃ D : DataW Unit, w.ownsMap Try.prog 45 (plainElem Try.prog 4) b n D ∧
    (∀ k, (Lit.int .u32 k).wf = true → Maps.has D (.int .u32 k) = decide (k ∈ S) ∧ D.atKey (.int .u32 k) (.lit (.bool false)) = .lit (.bool (decide (k ∈ S)))) ∧ Maps.size D = S.length ∧ S.Nodup
theorem zero4 (w : World) : (zeroValue 4).run Try.prog w = .ok (.bool false) w := by kernel_rfl
theorem SetM.made (w : World) : SetM (w.alloc (.map #[] 0)) w.heap.size 0 [] :=
  ⟨.map [], World.ownsMap_made w _ _ _, fun _ _ => ⟨rfl, rfl⟩, rfl, List.nodup_nil⟩
theorem SetM.kept {w w' : World} {b n : Nat} {S : List Int} {row : Option Nat} (h : SetM w b n S) (hg : w.grownBy w' row) (hne : some b ≠ row) : SetM w' b n S := by
  obtain ⟨D, h1, h2⟩ := h
  exact ⟨D, h1.kept hg hne, h2⟩
theorem SetM.alloc {w : World} {b n : Nat} {S : List Int} (h : SetM w b n S) (o : Obj) : SetM (w.alloc o) b n S := h.kept (World.grownBy_alloc w o none) (by simp)
theorem SetM.lt {w : World} {b n : Nat} {S : List Int} (h : SetM w b n S) : b < w.heap.size := by obtain ⟨D, h1, _⟩ := h; exact h1.lt
theorem plainElem_bool_inv {v : Value} {y : DataW Unit × List MemPlace} (h : plainElem Try.prog 4 v = some y) : ∃ c, v = .bool c ∧ y = (.lit (.bool c), []) := by
  unfold plainElem at h
  rw [Try.underlying4] at h
  cases v <;> simp at h
  exact ⟨_, rfl, h.symm⟩

/-- The reading of a key. -/
theorem SetM.look {w : World} {b n : Nat} {S : List Int} (h : SetM w b n S) {k : Int} (hw : (Lit.int .u32 k).wf = true) :
    (Instr.lookup 73 (.map (some b)) (.int .u32 k) false).run Try.prog w = .ok (.bool (decide (k ∈ S))) w := by
  obtain ⟨D, h1, h2, _⟩ := h
  obtain ⟨v, ps, hrun, hv⟩ := h1.lookup law45 Try.underlying73 (zero4 w) (zd := .lit (.bool false)) (zp := []) (plainElem_bool Try.underlying4 false) (keyOf_int_mk Try.underlying45 hw)
  obtain ⟨c, rfl, hc⟩ := plainElem_bool_inv hv
  rw [(h2 k hw).2] at hc
  injection hc with hc _
  injection hc with hc
  injection hc with hc
  rw [hrun, ← hc]
theorem lit_ne {k k' : Int} (h : k ≠ k') : (Lit.int .u32 k) ≠ (Lit.int .u32 k') := fun e => h (by injection e)
theorem SetM.put {w : World} {b n : Nat} {S : List Int} (h : SetM w b n S) {k : Int} (hw : (Lit.int .u32 k).wf = true) (hn : n < maxLen) :
    ∃ w', (Instr.mapUpdate 73 (.map (some b)) (.int .u32 k) (.bool true)).run Try.prog w = .ok () w' ∧ SetM w' b (n + 1) (wo S k ++ [k]) ∧ w.grownBy w' (some b) := by
  obtain ⟨D, h1, h2, h3, h4⟩ := h
  obtain ⟨w', hrun, hown, hg⟩ := h1.update law45 Try.underlying73 hn (keyOf_int_mk Try.underlying45 hw) (plainElem_bool Try.underlying4 true)
  have hkl := law45.key (keyOf_int_mk (k := 45) Try.underlying45 hw)
  refine ⟨w', hrun, ⟨_, hown, fun j hj => ?_, ?_, snoc_nodup (wo_nodup h4) (fun e => (mem_wo.1 e).2 rfl)⟩, hg⟩
  · by_cases e : j = k
    · subst e
      rw [has_put_same h1.isMap hkl, atKey_put_same h1.isMap hkl]
      have : decide (j ∈ wo S j ++ [j]) = true := by simp
      rw [this]; exact ⟨rfl, rfl⟩
    · rw [has_put_other (lit_ne e), atKey_put_other (lit_ne e)]
      have : decide (j ∈ wo S k ++ [k]) = decide (j ∈ S) := by simp [mem_wo, e]
      rw [this]; exact h2 j hj
  · rw [size_put (h1.tidy law45), (h2 k hw).1, List.length_append]
    by_cases hm : k ∈ S
    · have := wo_length h4 hm
      simp [hm]; omega
    · rw [wo_of_not_mem hm]
      simp [hm]; omega
theorem has_del {D : DataW Unit} {k j : Int} : Maps.has (D.del (.int .u32 k)) (.int .u32 j) = (Maps.has D (.int .u32 j) && decide (j ≠ k)) := by
  by_cases e : j = k
  · subst e; rw [has_del_same]; simp
  · rw [has_del_other (lit_ne e)]; simp [e]

/-- The closure that 'turn' hands to maps.DeleteFunc. -/
theorem leaves_any (k xo : Int) (v xh xl : Bool) (xb : Nat) (w : World) (hb : Blk w xb 50 #[.bool xh, .bool xl, .int .u32 xo]) :
    Calls Try.prog 49 #[.int .u32 k, .bool v, .pointer (some ⟨xb, 0, none⟩)] w fun e w' => e = .returned (.bool (xl && k == xo)) ∧ w = w' := by
  have x1 := hb.cell 1
  have x2 := hb.cell 2
  simp only [List.getElem?_toArray, List.getElem?_cons_zero, List.getElem?_cons_succ] at x1 x2
  clear hb
  cases xl with
  | true =>
    go_enter Try.func49, Try.ntmps49
    go_wp2
    go_ret
    exact ⟨rfl, rfl⟩
  | false =>
    go_enter Try.func49, Try.ntmps49
    go_wp2
    go_ret
    exact ⟨rfl, rfl⟩

/-- What is left of a map's datum while the range goes on: one key has gone as soon as it has come. -/
def gone (D0 D : DataW Unit) (xl : Bool) (xo : Int) (left : Lit → Bool) : Prop :=
  if xl = true ∧ left (.int .u32 xo) = false then D = D0.del (.int .u32 xo) else D = D0
theorem sameKey_u32 (j k : Int) : (Lit.int .u32 j).sameKey (.int .u32 k) = decide (j = k) := by
  by_cases e : j = k
  · subst e; simp [Lit.sameKey]
  · rw [sameKey_ne (lit_ne e)]; simp [e]

/-- A Bool that no simp splits. -/
structure BoolBox where
  c : Bool
/-- The step of a range over a map with u32 keys and Bool elements. -/
theorem wpList_next_ub (w : World) {ops : Array Oper} {rest : List Oper} {o : Oper} {a : Act} {Q : Exit → Act → World → Prop} (hg : o.guard = none) (it : Operand) (hop : o.op = Op.next it false)
    (b r n : Nat) (D : DataW Unit) (left : Lit → Bool) (cnt : Nat) (hit : a.eval it = .pointer (some ⟨r, 0, none⟩)) (h : w.ranges Try.prog 45 (plainElem Try.prog 4) b r n D left cnt)
    (hDone : cnt = 0 → (∀ kl, left kl = false) → wpList Try.prog ops Q rest (a.put o.dst (.tuple #[.bool false])) w)
    (hMore : ∀ (x : Int) (c : BoolBox) (w' : World) (cnt' : Nat), (Lit.int .u32 x).wf = true → left (.int .u32 x) = true → w'.ranges Try.prog 45 (plainElem Try.prog 4) b r n D (fun z => left z && !z.sameKey (.int .u32 x)) cnt' → cnt' < cnt →
      w.grownBy w' (some r) → w'.heap.size = w.heap.size → (Instr.entry (.pointer (some ⟨r, 0, none⟩))).run Try.prog w' = .ok (.tuple #[.int .u32 x, .bool c.c]) w' → wpList Try.prog ops Q rest (a.put o.dst (.tuple #[.bool true, .int .u32 x, .bool c.c])) w') :
    wpList Try.prog ops Q (o :: rest) a w :=
  wpList_next_ranges w (α := Int) (β := BoolBox) hg it hop 45 law45 (plainElem Try.prog 4) (Value.int .u32) (fun c => Value.bool c.c)
    (fun key kl hkey => by obtain ⟨x, rfl, _⟩ := Maps.keyOf_int_inv Try.underlying45 hkey; exact ⟨x, rfl⟩) (fun v y hv => by obtain ⟨c, rfl, _⟩ := plainElem_bool_inv hv; exact ⟨⟨c⟩, rfl⟩)
    b r n D left cnt hit h hDone (fun x c kl y w' cnt' hkey hlk hv hat hrg hlt hgr hsz hen => by
      obtain ⟨x', ex, rfl, hwx⟩ := Maps.keyOf_int_inv Try.underlying45 hkey
      cases ex
      exact hMore x c w' cnt' hwx hlk hrg hlt hgr hsz hen)
/-- A datum without one key, if so told. -/
def without1 (D : DataW Unit) (xl : Bool) (xo : Int) : DataW Unit := if xl = true then D.del (.int .u32 xo) else D

theorem gone_del {D0 D : DataW Unit} {xl : Bool} {xo x : Int} {left : Lit → Bool} (h : gone D0 D xl xo left) (hx : xl = true) (he : x = xo) (hl : left (.int .u32 x) = true) :
    gone D0 (D.del (.int .u32 x)) xl xo (fun z => (left z && !z.sameKey (.int .u32 x)) && !z.sameKey (.int .u32 x)) := by
  subst he
  unfold gone at h ⊢
  rw [hl, if_neg (by simp)] at h
  rw [h, if_pos ⟨hx, by simp [sameKey_u32]⟩]
theorem gone_keep {D0 D : DataW Unit} {xl : Bool} {xo x : Int} {left : Lit → Bool} (h : gone D0 D xl xo left) (hx : (xl && x == xo) = false) :
    gone D0 D xl xo (fun z => left z && !z.sameKey (.int .u32 x)) := by
  unfold gone at h ⊢
  cases xl with
  | false => simpa using h
  | true =>
    have : ¬ xo = x := by intro e; subst e; simp at hx
    simpa [sameKey_u32, this] using h

set_option maxRecDepth 100000 in
set_option maxHeartbeats 1000000 in
/-- maps.DeleteFunc with that closure. -/
theorem deleteFunc_any (b n : Nat) (D0 : DataW Unit) (xo : Int) (xh xl : Bool) (xb : Nat) (w : World) (hown : w.ownsMap Try.prog 45 (plainElem Try.prog 4) b n D0) (hbx : Blk w xb 50 #[.bool xh, .bool xl, .int .u32 xo])
    (hin : xl = true → Maps.has D0 (.int .u32 xo) = true) :
    Calls Try.prog 48 #[.map (some b), .func (.func 49) #[] #[.pointer (some ⟨xb, 0, none⟩)]] w fun e w' => e = .returned (.tuple #[]) ∧
      w'.ownsMap Try.prog 45 (plainElem Try.prog 4) b n (without1 D0 xl xo) ∧ w.grownBy w' (some b) := by
  have HIN := Lib.hid hin
  have HBX := Lib.hid hbx
  have hne : xb ≠ b := fun e => by
    subst e
    obtain ⟨es, ck, hh, _⟩ := hown
    unfold Blk at hbx
    rw [hbx] at hh; cases hh
  have hlt := hbx.lt
  clear hin hbx
  go_enter Try.func48, Try.ntmps48
  go_wp2_with (first
    | (at_range; refine wpList_range_own _ rfl _ 73 rfl 45 4 law45 Try.underlying73 _ b n _ rfl hown ?_; intro w0 hrg0 hg0 hs0)
    | (at_range; fail))
  go_frame
  go_loopw [4] (fun _ wr => ∃ (left : Lit → Bool) (cnt : Nat) (D : DataW Unit), wr.ranges Try.prog 45 (plainElem Try.prog 4) b w.heap.size n D left cnt ∧ w.grownBy wr (some b) ∧ gone D0 D xl xo left)
    (fun _ wr => wr.rangeLeft b w.heap.size)
  case atStart =>
    refine ⟨_, _, D0, hrg0, hg0.but _, ?_⟩
    unfold gone
    rw [if_neg]
    rintro ⟨h1, h2⟩
    rw [HIN.out h1] at h2
    cases h2
  case round =>
    obtain ⟨left, cnt, D, hrg, hgw, hgo⟩ := hrel
    have HG := Lib.hid hgo
    have hbr := Lib.hid (HBX.out.grown hgw (by simpa using hne))
    clear hgo hrg0 hg0
    go_wp2_with (first
      | (at_next; refine wpList_next_ub _ rfl (.tmp 7) rfl b w.heap.size n D left cnt rfl hrg ?_ ?_)
      | (at_next; fail))
    · intro _ hl0
      have HL := Lib.hid hl0
      clear hl0
      go_wp2
      go_end0
      refine ⟨rfl, ?_, hgw⟩
      have hg := HG.out
      unfold gone at hg
      rw [HL.out] at hg
      have := hrg.owns
      unfold without1
      by_cases hx : xl = true
      · rw [if_pos ⟨hx, rfl⟩] at hg; rw [if_pos hx, ← hg]; exact this
      · rw [if_neg (by simp [hx])] at hg; rw [if_neg hx, ← hg]; exact this
    · intro x c w1 cnt1 hwx hlx hrg1 hlt1 hg1 hs1 hen
      have hgw1 := hgw.andThen hg1 (fun j hj => by cases hj; exact Or.inl (Nat.le_refl _))
      have hb1 := HBX.out.grown hgw1 (by simpa using hne)
      have HC := Lib.hid (leaves_any x xo c.c xh xl xb w1 hb1)
      have HL := Lib.hid hlx
      clear hlx
      go_wp2_with fail
      refine (HC.out).mono ?_
      rintro e w' ⟨rfl, rfl⟩
      by_cases hx : (xl && x == xo) = true
      · have hx2 := hx
        simp only [Bool.and_eq_true, beq_iff_eq] at hx2
        obtain ⟨hx3, hx4⟩ := hx2
        have HX := Lib.hid hx3
        have HX4 := Lib.hid hx4
        clear hx3 hx4
        go_wp2_with (first
          | (at_delete; refine wpList_delete_ranges _ rfl _ _ 73 45 rfl 4 law45 Try.underlying73 _ b w.heap.size n _ _ _ rfl hrg1 _ _ rfl (keyOf_int_mk Try.underlying45 hwx) ?_; intro w2 cnt2 hrg2 hle hturn)
          | (at_delete; fail))
        refine ⟨⟨_, _, _, _, _, _, _, _, _, _, _, _, _, ⟨_, _, _, hrg2, hgw1.andThen hturn.grown (fun j hj => Or.inr hj), ?_⟩, rfl⟩, ?_⟩
        · exact gone_del HG.out HX.out HX4.out HL.out
        · rw [hrg2.left_eq, hrg.left_eq]; omega
      · have hx0 : (xl && x == xo) = false := by simpa using hx
        clear hx
        go_wp2_with fail
        case roundEnd =>
          refine ⟨⟨_, _, _, hrg1, hgw1, ?_⟩, ?_⟩
          · exact gone_keep HG.out hx0
          · rw [hrg1.left_eq, hrg.left_eq]; omega

theorem SetM.del {b n : Nat} {S : List Int} {w w' : World} {D : DataW Unit} {xl : Bool} {xo : Int}
    (h2 : ∀ k, (Lit.int .u32 k).wf = true → Maps.has D (.int .u32 k) = decide (k ∈ S) ∧ D.atKey (.int .u32 k) (.lit (.bool false)) = .lit (.bool (decide (k ∈ S)))) (h3 : Maps.size D = S.length) (h4 : S.Nodup)
    (h1 : w.ownsMap Try.prog 45 (plainElem Try.prog 4) b n D) (hw : (Lit.int .u32 xo).wf = true) (hx : xl = true → xo ∈ S) (h : w'.ownsMap Try.prog 45 (plainElem Try.prog 4) b n (without1 D xl xo)) :
    SetM w' b n (if xl = true then wo S xo else S) := by
  unfold without1 at h
  cases xl with
  | false => simp at h ⊢; exact ⟨D, h, h2, h3, h4⟩
  | true =>
    simp at h ⊢
    refine ⟨_, h, fun j hj => ⟨?_, ?_⟩, ?_, wo_nodup h4⟩
    · rw [has_del, (h2 j hj).1]
      simp only [mem_wo, Bool.decide_and]
    · by_cases e : j = xo
      · subst e
        rw [atKey_del_same]
        simp [mem_wo]
      · rw [atKey_del_other (lit_ne e), (h2 j hj).2]
        simp [mem_wo, e]
    · have := size_del (h1.tidy law45) (k := .int .u32 xo)
      have hl := wo_length h4 (hx rfl)
      rw [(h2 xo hw).1, h3] at this
      simp [hx rfl] at this
      omega
end Go.Proofs.Ythclmacnmbmepaa
