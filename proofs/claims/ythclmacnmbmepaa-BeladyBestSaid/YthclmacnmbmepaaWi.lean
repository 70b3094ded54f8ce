import Derived.Test.YthclmacnmbmepaaWh
namespace Go.Proofs.Ythclmacnmbmepaa
open Go.RowKit Bel Go.Maps Go.Shelf

theorem info65 : (Try.prog.info? 65).map (fun i => (i.zero, i.size, i.bytes)) = some (some (.agg #[.int .u32 0, .int .i64 0]), 2, 16) := by kernel_rfl

/-- 'append(s, x)' of one element onto a row of the call's own, in a region that draws its order. -/
theorem step_app1 {P : Program} {ops : Array Oper} {o : Oper} {a : Act} {K : Act → World → Prop} {Q : Exit → Act → World → Prop} {E : Prop} (w0 : World) (hgd : o.guard = none) (s x : Operand) (t : TypeId)
    (ho : o.op = .call { callee := .builtin .append, args := #[s, x], argTypes := #[t, t] })
    (base : Nat) (e : TypeId) (size bytes : Nat) (z : Value) (hinfo : (P.info? e).map (fun i => (i.zero, i.size, i.bytes)) = some (some z, size, bytes)) (ht : P.underlying t = some (.slice e)) (hzs : z.cells.size = size) (hsz : 0 < size)
    (v : Value) (n : Nat) (xs cs : List Value) (hs : a.eval s = v) (hown : w0.ownsRow base e size v n xs) (hcs : cs.length = size) (h1 : ∀ u ∈ cs, u.oneCell' = true)
    (hx : a.eval x = .slice (some ⟨w0.heap.size, 0, none⟩) 1 1) (h63 : n + 1 ≤ maxLen) (hbytes : (n + 1) * bytes ≤ 140737488355328) (hbase : base ≤ w0.heap.size)
    (h : ∀ v' w', w'.ownsRow base e size v' (n + 1) (xs ++ cs) → w0.grownBy w' v.ownBlock → K (a.put o.dst v') w') :
    if Region.wanted o (yielded ops a.tmps) = true then Oper.wp P o a (w0.alloc (.cells cs.toArray e)).drew K Q else E := by
  obtain ⟨i0, hi, hz0, hz1, hz2⟩ := info_parts hinfo
  have hr : Reads (w0.alloc (.cells cs.toArray e)).drew (w0.heap.size + 1) size (some ⟨w0.heap.size, 0, none⟩) 1 cs := by
    refine ⟨by omega, fun _ => ⟨_, rfl, by simp, fun j u hj => ?_⟩⟩
    have hs : (w0.alloc (.cells cs.toArray e)).heap[w0.heap.size]? = some (.cells cs.toArray e) := heap_alloc_new w0 _
    rw [add_spot _ _ rfl]
    simp only [Nat.zero_add]
    show (w0.alloc (.cells cs.toArray e)).cell? _ = _
    unfold World.cell?
    rw [hs]
    simpa using hj
  refine step_append_any (w := (w0.alloc (.cells cs.toArray e)).drew) hgd s x t ho base e i0 z size bytes ht hi hz0 hz1 hz2 hzs hsz v n xs hs ((hown.alloc _).drew) _ _ 1 1 cs hx hr h1 h63 hbytes (by simp; omega) ?_
  intro v' w' hown' hg _
  exact h v' w' hown' ((only_drew (World.grownBy_alloc w0 _ _)).trans hg)

theorem own_step {W W' : World} {B e size n : Nat} {v : Value} {xs : List Value} (h : W.ownsRow B e size v n xs) (hb : Below W.heap.size W W') : W'.ownsRow B e size v n xs :=
  h.kept (only_of_below hb none) (by cases v.ownBlock <;> simp)
/-- Two rows, or a row and a block, of different element types do not share a block. -/
theorem own_far {W : World} {B e size n : Nat} {v : Value} {xs : List Value} {B' e' size' n' : Nat} {v' : Value} {xs' : List Value} (h : W.ownsRow B e size v n xs) (h' : W.ownsRow B' e' size' v' n' xs') (hne : e ≠ e') :
    v.ownBlock = none ∨ v.ownBlock ≠ v'.ownBlock := by
  rcases h.2 with ⟨rfl, _⟩ | ⟨g, cap, cur, rfl, _, hg, _⟩
  · exact .inl rfl
  · refine .inr fun e1 => ?_
    rcases h'.2 with ⟨rfl, _⟩ | ⟨g', cap', cur', rfl, _, hg', _⟩
    · simp [Value.ownBlock] at e1
    · simp only [Value.ownBlock, Option.some.injEq] at e1
      subst e1
      rw [hg] at hg'
      injection hg' with hg'
      injection hg' with _ h2
      exact hne h2
theorem blk_far {W : World} {B e size n : Nat} {v : Value} {xs : List Value} {g : Nat} {t : TypeId} {cs : Array Value} (h : Blk W g t cs) (h' : W.ownsRow B e size v n xs) (hne : e ≠ t) : some g ≠ v.ownBlock :=
  fun e1 => own_blk_ne h' h hne e1.symm

/-- What 'Turns' keeps of the world from round to round. -/
structure TI (w0 W : World) (vN : Value) (n : Nat) (tr : List Int) (bo : Nat) (os : List Turn) (vT : Value) (m : Nat) (ps : List (Int × Int)) : Prop where
  below : Below w0.heap.size w0 W
  next : W.ownsRow w0.heap.size 3 1 vN n (ints .i64 (nextsTo tr n))
  hbo : w0.heap.size ≤ bo
  out : Blk W bo 50 (tcells os).toArray
  there : W.ownsRow w0.heap.size 65 2 vT m (pcells ps)

section
variable {w0 W W' : World} {vN vT : Value} {n bo m : Nat} {tr : List Int} {os : List Turn} {ps : List (Int × Int)}
theorem TI.step (h : TI w0 W vN n tr bo os vT m ps) (hb : Below W.heap.size W W') : TI w0 W' vN n tr bo os vT m ps :=
  ⟨h.below.trans (hb.mono h.below.size), own_step h.next hb, h.hbo, h.out.below hb h.out.lt, own_step h.there hb⟩
theorem TI.alloc (h : TI w0 W vN n tr bo os vT m ps) (o : Obj) : TI w0 (W.alloc o) vN n tr bo os vT m ps := h.step ((Below.refl _ _).alloc (Nat.le_refl _) _)
theorem TI.drew (h : TI w0 W vN n tr bo os vT m ps) : TI w0 W.drew vN n tr bo os vT m ps := h.step (Below.refl _ _).drew
/-- A store into a block that is none of the three. -/
theorem TI.far (h : TI w0 W vN n tr bo os vT m ps) {p : Addr} {t : TypeId} {cs : Array Value} (hp : Blk W p.block t cs) (h3 : t ≠ 3) (h50 : t ≠ 50) (h65 : t ≠ 65) (hB : w0.heap.size ≤ p.block) (u : Value) :
    TI w0 (W.setCell p u) vN n tr bo os vT m ps := by
  have hg : W.grownBy (W.setCell p u) (some p.block) := only_setCell (World.grownBy.refl W _) (.inl rfl) u
  refine ⟨h.below.setCell hB _, h.next.kept hg (.inr fun e => blk_far hp h.next (Ne.symm h3) e.symm), h.hbo, h.out.far (h.out.ne_ hp (Ne.symm h50)) _, h.there.kept hg (.inr fun e => blk_far hp h.there (Ne.symm h65) e.symm)⟩
theorem TI.setOut (h : TI w0 W vN n tr bo os vT m ps) {k : Nat} {u : Value} {os' : List Turn} (ho : (tcells os).toArray.setIfInBounds k u = (tcells os').toArray) : TI w0 (W.setCell ⟨bo, k, none⟩ u) vN n tr bo os' vT m ps := by
  have hg : W.grownBy (W.setCell ⟨bo, k, none⟩ u) (some bo) := only_setCell (World.grownBy.refl W _) (.inl rfl) u
  refine ⟨h.below.setCell h.hbo _, h.next.kept hg (.inr fun e => blk_far h.out h.next (by decide) e.symm), h.hbo, ?_, h.there.kept hg (.inr fun e => blk_far h.out h.there (by decide) e.symm)⟩
  have := h.out.set_ k u
  rwa [ho] at this
theorem TI.turnThere (h : TI w0 W vN n tr bo os vT m ps) {vT' : Value} {m' : Nat} {ps' : List (Int × Int)} (hg : W.grownBy W' vT.ownBlock) (hown : W'.ownsRow w0.heap.size 65 2 vT' m' (pcells ps')) : TI w0 W' vN n tr bo os vT' m' ps' := by
  have hlt : ∀ k, vT.ownBlock = some k → w0.heap.size ≤ k := fun k hk => (h.there.lt k hk).1
  exact ⟨h.below.grown hg h.below.size hlt, h.next.kept hg (own_far h.next h.there (by decide)), h.hbo, h.out.grown hg (blk_far h.out h.there (by decide)), hown⟩
end

/-! ### The plain law of 'Turns' -/

def keys (ps : List (Int × Int)) : List Int := ps.map Prod.fst
theorem keys_len (ps : List (Int × Int)) : (keys ps).length = ps.length := by simp [keys]
theorem keys_at {ps : List (Int × Int)} {j : Nat} (h : j < ps.length) : (keys ps)[j]'(by rw [keys_len]; exact h) = pkey ps j := by
  simp [keys, pkey, pnth_eq h]
theorem mem_keys {ps : List (Int × Int)} {k : Int} : k ∈ keys ps ↔ ∃ j, j < ps.length ∧ pkey ps j = k := by
  constructor
  · intro h
    obtain ⟨j, hj, e⟩ := List.mem_iff_getElem.1 h
    rw [keys_len] at hj
    exact ⟨j, hj, by rw [← keys_at hj]; exact e⟩
  · rintro ⟨j, hj, rfl⟩
    rw [← keys_at hj]
    exact List.getElem_mem _
theorem pkey_inj {ps : List (Int × Int)} (hd : (keys ps).Nodup) {i j : Nat} (hi : i < ps.length) (hj : j < ps.length) (h : pkey ps i = pkey ps j) : i = j := by
  have hp := List.pairwise_iff_getElem.1 hd
  rcases Nat.lt_trichotomy i j with hlt | rfl | hlt
  · exact absurd (by rw [keys_at hi, keys_at hj, h]) (hp i j (by rw [keys_len]; exact hi) (by rw [keys_len]; exact hj) hlt)
  · rfl
  · exact absurd (by rw [keys_at hi, keys_at hj, h]) (hp j i (by rw [keys_len]; exact hj) (by rw [keys_len]; exact hi) hlt)

theorem bst_snoc {t L : List Int} {x : Int} (h : L ≠ []) : bst t (L ++ [x]) = if t.idxOf (bst t L) < t.idxOf x ∨ (t.idxOf x = t.idxOf (bst t L) ∧ x < bst t L) then x else bst t L := by
  cases L with
  | nil => exact absurd rfl h
  | cons a l =>
    simp only [List.cons_append, bst, List.foldl_append, List.foldl_cons, List.foldl_nil]
    congr

structure PI (tr : List Int) (s k : Nat) (os : List Turn) (ps : List (Int × Int)) : Prop where
  turns : turnsL s tr [] = os ++ turnsL s (tr.drop k) (keys ps)
  len : os.length = k
  nodup : (keys ps).Nodup
  room : ps.length ≤ s
  nexts : ∀ j, j < ps.length → pnext ps j = (nxt tr k (pkey ps j) : Int)

theorem PI.start (tr : List Int) (s : Nat) : PI tr s 0 [] [] := ⟨rfl, rfl, List.nodup_nil, Nat.zero_le _, fun j hj => by simp at hj⟩

theorem pkey_set {ps : List (Int × Int)} {i j : Nat} {x : Int × Int} (hj : j < ps.length) : pkey (ps.set i x) j = if i = j then x.1 else pkey ps j := by
  unfold pkey
  rw [pnth_eq (by simpa using hj), List.getElem_set, pnth_eq hj]
  split <;> rfl
theorem pnext_set {ps : List (Int × Int)} {i j : Nat} {x : Int × Int} (hj : j < ps.length) : pnext (ps.set i x) j = if i = j then x.2 else pnext ps j := by
  unfold pnext
  rw [pnth_eq (by simpa using hj), List.getElem_set, pnth_eq hj]
  split <;> rfl
theorem keys_set {ps : List (Int × Int)} {i : Nat} {x : Int} : keys (ps.set i (pkey ps i, x)) = keys ps := by
  unfold keys
  rw [List.map_set]
  by_cases hi : i < ps.length
  · apply List.ext_getElem (by simp)
    intro j h1 h2
    rw [List.getElem_set]
    split
    · rename_i e; subst e; simp [pkey, pnth_eq hi]
    · rfl
  · rw [List.set_eq_of_length_le (by simp; omega)]
theorem drop_at {tr : List Int} {k : Nat} (hk : k < tr.length) : tr.drop k = nth tr k :: tr.drop (k + 1) := by
  rw [List.drop_eq_getElem_cons hk, nth_eq hk]

theorem PI.hit {tr : List Int} {s k j : Nat} {os : List Turn} {ps : List (Int × Int)} (h : PI tr s k os ps) (hk : k < tr.length) (hj : j < ps.length) (e : pkey ps j = nth tr k) :
    PI tr s (k + 1) (os ++ [⟨true, false, 0⟩]) (ps.set j (pkey ps j, (nxt tr (k + 1) (nth tr k) : Int))) := by
  refine ⟨?_, by simp [h.len], by rw [keys_set]; exact h.nodup, by simpa using h.room, fun i hi => ?_⟩
  · rw [keys_set, h.turns, drop_at hk]
    have hm : nth tr k ∈ keys ps := mem_keys.2 ⟨j, hj, e⟩
    rw [turnsL, if_pos hm]; simp
  · have hi' : i < ps.length := by simpa using hi
    rw [pkey_set hi', pnext_set hi']
    by_cases hij : j = i
    · rw [if_pos hij, if_pos hij, e]
    · rw [if_neg hij, if_neg hij, h.nexts i hi', nxt_miss hk]
      intro e'
      exact hij (pkey_inj h.nodup hj hi' (by rw [e, e']))
theorem keys_app (ps qs : List (Int × Int)) : keys (ps ++ qs) = keys ps ++ keys qs := by simp [keys]
theorem pkey_app_l {ps qs : List (Int × Int)} {j : Nat} (hj : j < ps.length) : pkey (ps ++ qs) j = pkey ps j := by
  unfold pkey; rw [pnth_eq (by simp; omega), pnth_eq hj, List.getElem_append_left hj]
theorem pnext_app_l {ps qs : List (Int × Int)} {j : Nat} (hj : j < ps.length) : pnext (ps ++ qs) j = pnext ps j := by
  unfold pnext; rw [pnth_eq (by simp; omega), pnth_eq hj, List.getElem_append_left hj]
theorem pnth_app_r (ps : List (Int × Int)) (x : Int × Int) : pnth (ps ++ [x]) ps.length = x := by
  rw [pnth_eq (by simp)]; simp
theorem PI.room_ {tr : List Int} {s k : Nat} {os : List Turn} {ps : List (Int × Int)} (h : PI tr s k os ps) (hk : k < tr.length) (hno : ∀ i, i < ps.length → pkey ps i ≠ nth tr k) (hs : ps.length < s) :
    PI tr s (k + 1) (os ++ [⟨false, false, 0⟩]) (ps ++ [(nth tr k, (nxt tr (k + 1) (nth tr k) : Int))]) := by
  have hm : nth tr k ∉ keys ps := fun hc => by obtain ⟨j, hj, e⟩ := mem_keys.1 hc; exact hno j hj e
  refine ⟨?_, by simp [h.len], ?_, by simp; omega, fun i hi => ?_⟩
  · rw [keys_app, h.turns, drop_at hk, turnsL, if_neg hm, if_neg (by rw [keys_len]; omega)]; simp [keys]
  · rw [keys_app]; exact snoc_nodup h.nodup hm
  · by_cases hi' : i < ps.length
    · rw [pkey_app_l hi', pnext_app_l hi', h.nexts i hi', nxt_miss hk (Ne.symm (hno i hi'))]
    · obtain rfl : i = ps.length := by simp at hi; omega
      unfold pkey pnext
      rw [pnth_app_r]

/-- The place that leaves first is that of the key that the optimal policy lets go. -/
theorem min_bst {tr : List Int} {s k : Nat} {os : List Turn} {ps : List (Int × Int)} (h : PI tr s k os ps) (hk : k < tr.length) (hno : ∀ i, i < ps.length → pkey ps i ≠ nth tr k) :
    ∀ j, 1 ≤ j → j ≤ ps.length → (minTo ps j).1 = bst (tr.drop (k + 1)) ((keys ps).take j) ∧ (minTo ps j).2 = (nxt tr (k + 1) (minTo ps j).1 : Int) := by
  have hnx : ∀ i, i < ps.length → pnext ps i = (nxt tr (k + 1) (pkey ps i) : Int) := fun i hi => by rw [h.nexts i hi, nxt_miss hk (Ne.symm (hno i hi))]
  intro j h1
  induction j with
  | zero => omega
  | succ j ih =>
    intro hj
    by_cases hj0 : j = 0
    · subst hj0
      rw [minTo_one]
      have e : (keys ps).take 1 = [pkey ps 0] := by
        rw [List.take_succ_eq_append_getElem (by rw [keys_len]; omega), keys_at (by omega)]; simp
      refine ⟨by rw [e]; rfl, ?_⟩
      exact hnx 0 (by omega)
    · obtain ⟨i1, i2⟩ := ih (by omega) (by omega)
      have e : (keys ps).take (j + 1) = (keys ps).take j ++ [pkey ps j] := by
        rw [List.take_succ_eq_append_getElem (by rw [keys_len]; omega), keys_at (by omega)]
      have hb : bst (tr.drop (k + 1)) ((keys ps).take (j + 1)) = if (tr.drop (k + 1)).idxOf (minTo ps j).1 < (tr.drop (k + 1)).idxOf (pkey ps j) ∨ ((tr.drop (k + 1)).idxOf (pkey ps j) = (tr.drop (k + 1)).idxOf (minTo ps j).1 ∧ pkey ps j < (minTo ps j).1) then pkey ps j else (minTo ps j).1 := by
        rw [e, i1]
        refine bst_snoc fun hc => ?_
        have := congrArg List.length hc
        rw [List.length_take, keys_len, Nat.min_eq_left (by omega)] at this
        simp at this; omega
      have hx := hnx j (by omega)
      by_cases hq : laterI (pkey ps j) (pnext ps j) (minTo ps j).1 (minTo ps j).2 < 0
      · rw [minTo_yes hq, hb]
        rw [laterI_neg, hx, i2] at hq
        unfold nxt at hq
        rw [if_pos (by omega)]
        exact ⟨rfl, hx⟩
      · rw [minTo_no hq, hb]
        rw [laterI_neg, hx, i2] at hq
        unfold nxt at hq
        rw [if_neg (by omega)]
        exact ⟨rfl, i2⟩

theorem erase_wo : ∀ (L : List Int), L.Nodup → ∀ (i : Nat) (hi : i < L.length), L.eraseIdx i = wo L L[i] := by
  intro L
  induction L with
  | nil => intro _ i hi; simp at hi
  | cons a L ih =>
    intro hd i hi
    rw [List.nodup_cons] at hd
    cases i with
    | zero => simp only [List.eraseIdx_cons_zero, List.getElem_cons_zero]; exact (wo_cons_self hd.1).symm
    | succ i =>
      have hi' : i < L.length := by simpa using hi
      simp only [List.eraseIdx_cons_succ, List.getElem_cons_succ]
      rw [wo_cons_ne, ih hd.2 i hi']
      intro e
      exact hd.1 (by rw [e]; exact List.getElem_mem _)
theorem keys_erase {ps : List (Int × Int)} (hd : (keys ps).Nodup) {i : Nat} (hi : i < ps.length) : keys (ps.eraseIdx i) = wo (keys ps) (pkey ps i) := by
  have h1 : keys (ps.eraseIdx i) = (keys ps).eraseIdx i := by unfold keys; rw [List.eraseIdx_eq_take_drop_succ, List.eraseIdx_eq_take_drop_succ, List.map_append, List.map_take, List.map_drop]
  rw [h1, erase_wo _ hd i (by rw [keys_len]; exact hi), keys_at hi]
theorem pnth_mem_erase {ps : List (Int × Int)} {i j : Nat} (hj : j < (ps.eraseIdx i).length) : ∃ j', j' < ps.length ∧ pnth (ps.eraseIdx i) j = pnth ps j' := by
  have h : pnth (ps.eraseIdx i) j ∈ ps := by
    rw [pnth_eq hj]
    exact List.mem_of_mem_eraseIdx (List.getElem_mem _)
  obtain ⟨j', h1, h2⟩ := List.mem_iff_getElem.1 h
  exact ⟨j', h1, by rw [← h2, pnth_eq h1]⟩
theorem PI.full {tr : List Int} {s k i : Nat} {os : List Turn} {ps : List (Int × Int)} (h : PI tr s k os ps) (hk : k < tr.length) (hno : ∀ i, i < ps.length → pkey ps i ≠ nth tr k) (hs : ps.length = s) (h1 : 1 ≤ s)
    (hi : i < ps.length) (e : pnth ps i = (minK ps ps.length, minX ps ps.length)) :
    PI tr s (k + 1) (os ++ [⟨false, true, minK ps ps.length⟩]) (ps.eraseIdx i ++ [(nth tr k, (nxt tr (k + 1) (nth tr k) : Int))]) := by
  have hm : nth tr k ∉ keys ps := fun hc => by obtain ⟨j, hj, e⟩ := mem_keys.1 hc; exact hno j hj e
  obtain ⟨m1, _⟩ := min_bst h hk hno ps.length (by omega) (Nat.le_refl _)
  rw [List.take_of_length_le (by rw [keys_len]; exact Nat.le_refl _)] at m1
  have hki : pkey ps i = bst (tr.drop (k + 1)) (keys ps) := by unfold pkey; rw [e, ← m1]; rfl
  have hke := keys_erase h.nodup hi
  have hlen : (ps.eraseIdx i).length = ps.length - 1 := by rw [List.length_eraseIdx, if_pos hi]
  have hm' : nth tr k ∉ keys (ps.eraseIdx i) := fun hc => by rw [hke] at hc; exact hm (mem_wo.1 hc).1
  refine ⟨?_, by simp [h.len], ?_, by simp; omega, fun j hj => ?_⟩
  · rw [keys_app, hke, h.turns, drop_at hk, turnsL, if_neg hm, if_pos (by rw [keys_len]; exact hs), hki]
    unfold minK
    rw [m1]
    simp [keys]
  · rw [keys_app]
    exact snoc_nodup (by rw [hke]; exact wo_nodup h.nodup) hm'
  · by_cases hj' : j < (ps.eraseIdx i).length
    · rw [pkey_app_l hj', pnext_app_l hj']
      obtain ⟨j2, h3, h4⟩ := pnth_mem_erase hj'
      unfold pkey pnext
      rw [h4]
      have := h.nexts j2 h3
      rw [nxt_miss hk (Ne.symm (hno j2 h3))] at this
      exact this
    · obtain rfl : j = (ps.eraseIdx i).length := by simp at hj; omega
      unfold pkey pnext
      rw [pnth_app_r]
end Go.Proofs.Ythclmacnmbmepaa
