/- law 36, ViewLast: plain laws: the last record of each key. -/
import Derived.Test.YtlanghikmccmbaaGB
import Derived.Test.YtlanghikmccmbaaVU
namespace Go.Proofs.Ytlanghikmccmbaa
set_option linter.unusedVariables false
set_option linter.unusedSimpArgs false
/-- The records with their offsets. -/
def evB (b : Bat) : List (Int × Rec) := b.recs.map fun r => (b.base + r.delta, r)
def evs (l : List Bat) : List (Int × Rec) := l.flatMap evB
def evRows (rows : List VRow) (es : List (Int × Rec)) : List VRow := es.foldl (fun l e => oneR l e.2 e.1) rows
theorem evRows_app (rows : List VRow) (a b : List (Int × Rec)) : evRows rows (a ++ b) = evRows (evRows rows a) b := List.foldl_append ..
theorem evRows_evB (rows : List VRow) (b : Bat) : evRows rows (evB b) = foldR b.base rows b.recs := by
  unfold evRows evB foldR
  rw [List.foldl_map]
theorem goVs_evs : ∀ (l : List Bat) (v : Vw), (goVs v l).rows = evRows v.rows (evs l)
  | [], v => rfl
  | b :: l, v => by
    have e : evs (b :: l) = evB b ++ evs l := rfl
    rw [e, evRows_app, evRows_evB]
    exact goVs_evs l (goV v b)
abbrev EvUp (es : List (Int × Rec)) : Prop := es.Pairwise fun a b => a.1 < b.1
theorem chk_pair {count : Int} : ∀ {rs : List Rec} {last : Int}, chk last count rs = 0 → rs.Pairwise fun a b => a.delta < b.delta
  | [], _, _ => .nil
  | s :: rs, last, h => by
    have h0 := h
    rw [chk] at h
    split at h
    · next h1 => exact absurd h h1
    · next h1 =>
      split at h
      · cases h
      · next h2 => exact List.pairwise_cons.2 ⟨fun r hr => (chk_each h r hr).2.1, chk_pair h⟩
theorem evB_mem {b : Bat} (hb : batCheck b = 0) {e : Int × Rec} (he : e ∈ evB b) : b.base ≤ e.1 ∧ e.1 < b.base + b.count := by
  unfold evB at he
  obtain ⟨r, hr, rfl⟩ := List.mem_map.1 he
  have := (chk_each (batCheck_ok hb).2 r hr).2
  exact ⟨by simp only; omega, by simp only; omega⟩
theorem evB_up {b : Bat} (hb : batCheck b = 0) : EvUp (evB b) := by
  unfold evB EvUp
  rw [List.pairwise_map]
  exact (chk_pair (batCheck_ok hb).2).imp fun h => by simp only; omega
theorem evs_up : ∀ {l : List Bat} {n : Int}, risesB n l = true → EvUp (evs l) ∧ ∀ e ∈ evs l, n ≤ e.1
  | [], _, _ => ⟨.nil, fun e he => by cases he⟩
  | b :: l, n, h => by
    obtain ⟨h1, h2, h3⟩ := rises_cons h
    obtain ⟨i1, i2⟩ := evs_up h3
    have e : evs (b :: l) = evB b ++ evs l := rfl
    have hc := (batNum_ok (batCheck_ok h1).1).1
    rw [e]
    refine ⟨List.pairwise_append.2 ⟨evB_up h1, i1, fun x hx y hy => ?_⟩, fun x hx => ?_⟩
    · have := (evB_mem h1 hx).2
      have := i2 y hy
      omega
    · rcases List.mem_append.1 hx with hx | hx
      · have := (evB_mem h1 hx).1; omega
      · have := i2 x hx; omega
/-- The last record of a key. -/
def lastE (k : List UInt8) : List (Int × Rec) → Option (Int × Rec)
  | [] => none
  | e :: es => (lastE k es).or (if e.2.keyed = true ∧ e.2.key = k then some e else none)
theorem lastE_app (k : List UInt8) : ∀ a b : List (Int × Rec), lastE k (a ++ b) = (lastE k b).or (lastE k a)
  | [], b => by simp [lastE]
  | e :: a, b => by rw [List.cons_append, lastE, lastE, lastE_app k a b, Option.or_assoc]
theorem lastE_snoc (k : List UInt8) (a : List (Int × Rec)) (e : Int × Rec) : lastE k (a ++ [e]) = (if e.2.keyed = true ∧ e.2.key = k then some e else none).or (lastE k a) := by
  rw [lastE_app]
  simp [lastE]
theorem lastE_mem {k : List UInt8} : ∀ {es : List (Int × Rec)} {e : Int × Rec}, lastE k es = some e → e ∈ es ∧ e.2.keyed = true ∧ e.2.key = k
  | [], e, h => by cases h
  | x :: es, e, h => by
    rw [lastE] at h
    cases hl : lastE k es with
    | some y =>
      rw [hl] at h
      cases h
      have := lastE_mem hl
      exact ⟨List.mem_cons_of_mem _ this.1, this.2⟩
    | none =>
      rw [hl, Option.none_or] at h
      split at h
      · next hk => cases h; exact ⟨by simp, hk⟩
      · cases h
theorem lastE_none {k : List UInt8} : ∀ {es : List (Int × Rec)}, lastE k es = none → ∀ e ∈ es, e.2.keyed = true → e.2.key ≠ k
  | [], _, e, he => by cases he
  | x :: es, h, e, he => by
    rw [lastE] at h
    cases hl : lastE k es with
    | some y => rw [hl] at h; cases h
    | none =>
      rw [hl, Option.none_or] at h
      intro hk hkk
      rcases List.mem_cons.1 he with rfl | he
      · rw [if_pos ⟨hk, hkk⟩] at h; cases h
      · exact lastE_none hl e he hk hkk
theorem lastE_max {k : List UInt8} : ∀ {es : List (Int × Rec)}, EvUp es → ∀ {e : Int × Rec}, lastE k es = some e → ∀ x ∈ es, x.2.keyed = true → x.2.key = k → x.1 ≤ e.1
  | [], _, e, h, _, _ => by cases h
  | y :: es, hu, e, h, x, hx => by
    intro hk hkk
    have hu' := List.pairwise_cons.1 hu
    rw [lastE] at h
    cases hl : lastE k es with
    | some z =>
      rw [hl] at h
      cases h
      rcases List.mem_cons.1 hx with rfl | hx
      · exact Int.le_of_lt (hu'.1 e (lastE_mem hl).1)
      · exact lastE_max hu'.2 hl x hx hk hkk
    | none =>
      rw [hl, Option.none_or] at h
      rcases List.mem_cons.1 hx with rfl | hx
      · split at h
        · cases h; exact Int.le_refl _
        · cases h
      · exact absurd hkk (lastE_none hl x hx hk)
theorem evUp_inj {es : List (Int × Rec)} (h : EvUp es) {a b : Int × Rec} (ha : a ∈ es) (hb : b ∈ es) (he : a.1 = b.1) : a = b := by
  obtain ⟨i, hi, rfl⟩ := List.getElem_of_mem ha
  obtain ⟨j, hj, rfl⟩ := List.getElem_of_mem hb
  rcases Nat.lt_trichotomy i j with hij | hij | hij
  · have := List.pairwise_iff_getElem.1 h i j hi hj hij; omega
  · subst hij; rfl
  · have := List.pairwise_iff_getElem.1 h j i hj hi hij; omega
theorem lastE_iff {k : List UInt8} {es : List (Int × Rec)} (hu : EvUp es) {e : Int × Rec} : lastE k es = some e ↔ e ∈ es ∧ e.2.keyed = true ∧ e.2.key = k ∧ ∀ x ∈ es, x.2.keyed = true → x.2.key = k → x.1 ≤ e.1 := by
  constructor
  · intro h
    have := lastE_mem h
    exact ⟨this.1, this.2.1, this.2.2, lastE_max hu h⟩
  · rintro ⟨h1, h2, h3, h4⟩
    cases hl : lastE k es with
    | none => exact absurd h3 (lastE_none hl e h1 h2)
    | some y =>
      obtain ⟨m1, m2, m3⟩ := lastE_mem hl
      have a1 := lastE_max hu hl e h1 h2 h3
      have a2 := h4 y m1 m2 m3
      rw [evUp_inj hu m1 h1 (by omega)]
/-- Where the key stands last, 0 if it does not. -/
def lastO (es : List (Int × Rec)) (k : List UInt8) : Int := match lastE k es with | some e => e.1 | none => 0
theorem lastO_eq {es : List (Int × Rec)} {k : List UInt8} {e : Int × Rec} (h : lastE k es = some e) : lastO es k = e.1 := by unfold lastO; rw [h]
def keepB (es : List (Int × Rec)) (e : Int × Rec) : Bool := !e.2.keyed || decide (e.1 = lastO es e.2.key)
theorem keep_last {es : List (Int × Rec)} (hu : EvUp es) {e : Int × Rec} (he : e ∈ es) (hk : e.2.keyed = true) (hl : e.1 = lastO es e.2.key) : lastE e.2.key es = some e := by
  cases h : lastE e.2.key es with
  | none => exact absurd rfl (lastE_none h e he hk)
  | some y =>
    rw [lastO_eq h] at hl
    rw [evUp_inj hu he (lastE_mem h).1 hl]
theorem lastE_keep {es : List (Int × Rec)} (hu : EvUp es) (k : List UInt8) : lastE k (es.filter (keepB es)) = lastE k es := by
  have hu2 : EvUp (es.filter (keepB es)) := hu.filter _
  cases h : lastE k es with
  | none =>
    cases h2 : lastE k (es.filter (keepB es)) with
    | none => rfl
    | some y =>
      obtain ⟨m1, m2, m3⟩ := lastE_mem h2
      exact absurd m3 (lastE_none h y (List.mem_filter.1 m1).1 m2)
  | some e =>
    rw [lastE_iff hu2]
    obtain ⟨m1, m2, m3, m4⟩ := (lastE_iff hu).1 h
    refine ⟨List.mem_filter.2 ⟨m1, ?_⟩, m2, m3, fun x hx => m4 x (List.mem_filter.1 hx).1⟩
    unfold keepB
    rw [m3, lastO_eq h]
    simp
theorem evRows_asc : ∀ (es : List (Int × Rec)) {rows : List VRow}, Asc rows → Asc (evRows rows es)
  | [], _, h => h
  | e :: es, _, h => evRows_asc es (one_asc h e.2 e.1)
theorem evRows_mem0 : ∀ (es : List (Int × Rec)) {rows : List VRow}, Asc rows → ∀ x : VRow, x ∈ evRows rows es ↔ match lastE x.key es with | some e => e.2.dead = false ∧ x = rowOf e.2 e.1 | none => x ∈ rows
  | [], _, _, _ => Iff.rfl
  | e :: es, rows, h, x => by
    have ih := evRows_mem0 es (one_asc h e.2 e.1) x
    have e0 : evRows rows (e :: es) = evRows (oneR rows e.2 e.1) es := rfl
    rw [e0, ih, lastE]
    cases hl : lastE x.key es with
    | some y => rfl
    | none =>
      simp only [Option.none_or]
      by_cases hk : e.2.keyed = true
      · rw [one_mem h e.2 e.1 hk]
        by_cases hkk : e.2.key = x.key
        · rw [if_pos ⟨hk, hkk⟩]
          simp [hkk]
        · rw [if_neg (fun c => hkk c.2)]
          constructor
          · rintro (⟨h1, _⟩ | ⟨_, h1⟩)
            · exact h1
            · exact absurd (by rw [h1]; rfl) hkk
          · intro h1; exact .inl ⟨h1, fun c => hkk c.symm⟩
      · have e1 : oneR rows e.2 e.1 = rows := by unfold oneR; rw [if_pos (by simpa using hk)]
        rw [e1, if_neg (fun c => hk c.1)]
theorem evRows_mem (es : List (Int × Rec)) (x : VRow) : x ∈ evRows [] es ↔ ∃ e, lastE x.key es = some e ∧ e.2.dead = false ∧ x = rowOf e.2 e.1 := by
  rw [evRows_mem0 es .nil x]
  cases lastE x.key es with
  | none => simp
  | some e => simp
theorem evRows_keep {es : List (Int × Rec)} (hu : EvUp es) : evRows [] (es.filter (keepB es)) = evRows [] es :=
  asc_ext (evRows_asc _ .nil) (evRows_asc _ .nil) fun x => by rw [evRows_mem, evRows_mem, lastE_keep hu]
/-- What counts: the last one of its key, and not dead. -/
def tellB (es : List (Int × Rec)) (e : Int × Rec) : Bool := e.2.keyed && decide (e.1 = lastO es e.2.key) && !e.2.dead
theorem tell_len {es : List (Int × Rec)} (hu : EvUp es) : (es.filter (tellB es)).length = (evRows [] es).length := by
  have hu2 : EvUp (es.filter (tellB es)) := hu.filter _
  have n1 : ((es.filter (tellB es)).map fun e => rowOf e.2 e.1).Nodup := by
    unfold List.Nodup
    rw [List.pairwise_map]
    exact hu2.imp fun {a b} h e => by
      have : (rowOf a.2 a.1).offset = (rowOf b.2 b.1).offset := by rw [e]
      unfold rowOf at this
      simp only at this
      omega
  have n2 : (evRows [] es).Nodup := (evRows_asc es .nil).imp fun {a b} h e => by rw [e, ltB_irrefl] at h; cases h
  have hm : ∀ x, x ∈ ((es.filter (tellB es)).map fun e => rowOf e.2 e.1) ↔ x ∈ evRows [] es := fun x => by
    rw [evRows_mem, List.mem_map]
    constructor
    · rintro ⟨e, he, rfl⟩
      obtain ⟨h1, h2⟩ := List.mem_filter.1 he
      unfold tellB at h2
      simp only [Bool.and_eq_true, decide_eq_true_eq, Bool.not_eq_true'] at h2
      exact ⟨e, keep_last hu h1 h2.1.1 h2.1.2, h2.2, rfl⟩
    · rintro ⟨e, h1, h2, rfl⟩
      rw [rowOf] at h1
      obtain ⟨m1, m2, m3⟩ := lastE_mem h1
      refine ⟨e, List.mem_filter.2 ⟨m1, ?_⟩, rfl⟩
      unfold tellB
      rw [m2, lastO_eq h1, h2]
      simp
  have a1 := n1.length_le_of_subset (l₂ := evRows [] es) (fun x hx => (hm x).1 hx)
  have a2 := n2.length_le_of_subset (l₂ := (es.filter (tellB es)).map fun e => rowOf e.2 e.1) (fun x hx => (hm x).2 hx)
  rw [List.length_map] at a1 a2
  omega
/-- What a record that is its key's last one says of the rows. -/
theorem tell_row {es : List (Int × Rec)} (hu : EvUp es) {e : Int × Rec} (he : e ∈ es) (hk : e.2.keyed = true) (hl : e.1 = lastO es e.2.key) : getR (evRows [] es) e.2.key = if e.2.dead = true then (VRow.zero, false) else (rowOf e.2 e.1, true) := by
  have h := keep_last hu he hk hl
  split
  · next hd =>
    refine getR_miss fun j y hy hc => ?_
    obtain ⟨e', h1, h2, _⟩ := (evRows_mem es y).1 (List.mem_of_getElem? hy)
    rw [hc, h] at h1
    cases h1
    rw [hd] at h2; cases h2
  · next hd =>
    have hx : rowOf e.2 e.1 ∈ evRows [] es := (evRows_mem es _).2 ⟨e, h, by simpa using hd, rfl⟩
    exact asc_find (ascB_of (evRows_asc es .nil)) hx
theorem row_last {es : List (Int × Rec)} {x : VRow} (hx : x ∈ evRows [] es) : lastO es x.key = x.offset := by
  obtain ⟨e, h1, h2, h3⟩ := (evRows_mem es x).1 hx
  rw [lastO_eq h1, h3]
  rfl
/-! ### batches with just what stays -/
def clnB (es : List (Int × Rec)) (b : Bat) : Bat := { b with recs := b.recs.filter fun r => keepB es (b.base + r.delta, r) }
def clnL (es : List (Int × Rec)) (l : List Bat) : List Bat := (l.map (clnB es)).filter fun b => decide (0 < b.recs.length) || decide (b.producer ≠ 0)
theorem evB_cln (es : List (Int × Rec)) (b : Bat) : evB (clnB es b) = (evB b).filter (keepB es) := by
  unfold evB clnB
  rw [List.filter_map]
  rfl
theorem evs_cln (es : List (Int × Rec)) : ∀ l : List Bat, evs (clnL es l) = (evs l).filter (keepB es)
  | [] => rfl
  | b :: l => by
    have ih := evs_cln es l
    have e1 : evs (b :: l) = evB b ++ evs l := rfl
    rw [e1, List.filter_append, ← evB_cln, ← ih]
    unfold clnL
    rw [List.map_cons, List.filter_cons]
    split
    · rfl
    · next h =>
      simp only [Bool.or_eq_true, decide_eq_true_eq, not_or] at h
      have h0 : (clnB es b).recs = [] := List.eq_nil_of_length_eq_zero (by omega)
      have e2 : evB (clnB es b) = [] := by unfold evB; rw [h0]; rfl
      rw [e2, List.nil_append]
theorem put_one (n : Nat) (h : n ≤ 32) : (put (n : Int)).length = 1 := by
  have e : (zig (n : Int)).toNat = 2 * n := by unfold zig; rw [if_pos (by omega)]; omega
  unfold put
  rw [e, layN_small (by omega)]
  rfl
theorem recsB_filter (f : Rec → Bool) : ∀ l : List Rec, (recsB (l.filter f)).length ≤ (recsB l).length
  | [] => Nat.le_refl _
  | r :: l => by
    have ih := recsB_filter f l
    rw [List.filter_cons]
    unfold recsB at *
    split
    · simp only [List.flatMap_cons, List.length_append]; omega
    · simp only [List.flatMap_cons, List.length_append]; omega
theorem chk_filter {count : Int} (f : Rec → Bool) : ∀ (rs : List Rec) {last last' : Int}, chk last count rs = 0 → last' ≤ last → chk last' count (rs.filter f) = 0
  | [], _, _, _, _ => rfl
  | s :: rs, last, last', h, hl => by
    rw [chk] at h
    split at h
    · next h1 => exact absurd h h1
    · next h1 =>
      split at h
      · cases h
      · next h2 =>
        rw [List.filter_cons]
        split
        · rw [chk, if_neg h1, if_neg (by omega)]
          exact chk_filter f rs h (Int.le_refl _)
        · exact chk_filter f rs h (by omega)
theorem cln_check (es : List (Int × Rec)) {b : Bat} (h : batCheck b = 0) : batCheck (clnB es b) = 0 := by
  obtain ⟨n1, c1⟩ := batCheck_ok h
  have hr := (batNum_ok n1).2.2.2.2.2.2.2.2.2.2
  have hrl : b.recs.length ≤ b.count := by
    unfold batNum at n1
    split at n1
    · cases n1
    · split at n1
      · cases n1
      · split at n1
        · cases n1
        · split at n1
          · cases n1
          · omega
  have hfl : (clnB es b).recs.length ≤ b.recs.length := List.length_filter_le ..
  have hlay : (batLay b).length ≤ 8192 := by
    unfold batCheck at h
    rw [if_neg (by rw [n1]; simp), if_neg (by rw [c1]; simp)] at h
    split at h
    · cases h
    · omega
  have hlay2 : (batLay (clnB es b)).length ≤ (batLay b).length := by
    have h1 := put_one b.recs.length (by omega)
    have h2 := put_one (clnB es b).recs.length (by omega)
    have h3 : (recsB (clnB es b).recs).length ≤ (recsB b.recs).length := recsB_filter _ _
    have e1 : (clnB es b).base = b.base := rfl
    have e2 : (clnB es b).count = b.count := rfl
    have e3 : (clnB es b).producer = b.producer := rfl
    have e4 : (clnB es b).epoch = b.epoch := rfl
    have e5 : (clnB es b).seq = b.seq := rfl
    unfold batLay numsB batHead
    rw [e1, e2, e3, e4, e5]
    simp only [List.flatMap_cons, List.flatMap_nil, List.length_append, List.length_nil]
    omega
  have n2 : batNum (clnB es b) = 0 := by
    obtain ⟨b0, b1, b2, b3, b4, rs⟩ := b
    unfold clnB at hfl ⊢
    dsimp only at hfl hrl
    unfold batNum at n1 ⊢
    dsimp only at n1 ⊢
    split at n1
    · cases n1
    · next g1 =>
      rw [if_neg g1]
      split at n1
      · cases n1
      · next g2 =>
        rw [if_neg g2]
        split at n1
        · cases n1
        · next g3 =>
          rw [if_neg g3, if_neg (by omega)]
  have c2 : chk (-1) (clnB es b).count (clnB es b).recs = 0 := chk_filter _ _ c1 (Int.le_refl _)
  unfold batCheck
  rw [if_neg (by rw [n2]; simp), if_neg (by rw [c2]; simp), if_neg (by omega)]
theorem rises_le : ∀ {l : List Bat} {n m : Int}, risesB n l = true → m ≤ n → risesB m l = true
  | [], _, _, _, _ => rfl
  | b :: l, n, m, h, hm => by
    obtain ⟨h1, h2, h3⟩ := rises_cons h
    rw [risesB, if_neg (by rw [h1]; simp; omega)]
    exact h3
theorem cln_rises (es : List (Int × Rec)) : ∀ {l : List Bat} {n : Int}, risesB n l = true → risesB n (clnL es l) = true
  | [], _, _ => rfl
  | b :: l, n, h => by
    obtain ⟨h1, h2, h3⟩ := rises_cons h
    have ih := cln_rises es h3
    have hc := (batNum_ok (batCheck_ok h1).1).1
    unfold clnL at ih ⊢
    rw [List.map_cons, List.filter_cons]
    split
    · rw [risesB, if_neg (by rw [cln_check es h1]; simp; exact h2)]
      exact ih
    · exact rises_le ih (by omega)
end Go.Proofs.Ytlanghikmccmbaa
/- compact.Last: the map that it makes. -/
namespace Go.Proofs.Ytlanghikmccmbaa
open Go.ChangeShapes Go.WideShapes Go.ChangeAt Go.RowKit Go.Maps
set_option linter.unusedVariables false
set_option linter.unusedSimpArgs false
/-! ### a lookup that tells whether the key is there -/
section
variable {H : Type} {P : Program} {k e t : TypeId} {R : Value → Option (DataW H × List MemPlace)} {w : World} {nd n : Nat} {ob : Obj} {D : DataW H} {ops : Array Oper} {rest : List Oper} {o : Oper} {a : Act} {Q : Exit → Act → World → Prop}
theorem map_look2 (h : MapB P k R n D ob) (K : Keyed P k) (ht : P.underlying t = some (.map k e)) {z : Value} (hz : ∀ W, (zeroValue e).run P W = .ok z W) {zd : DataW H} {zp : List MemPlace} (hzd : R z = some (zd, zp)) {key : Value} {kl : Lit} (hkey : keyOf P k key = some kl) :
    ∀ (W : World) (b : Nat), W.heap[b]? = some ob → ∃ v ps, (Instr.lookup t (.map (some b)) key true).run P W = .ok (.tuple #[v, .bool (Maps.has D kl)]) W ∧ R v = some (D.atKey kl zd, ps) := fun W b hb => (h.own W b hb).look_ok K ht (hz W) hzd hkey
theorem wp_lookup2_wd (A L : List (Array Obj)) (hg : o.guard = none) (m x : Operand) (hop : o.op = Op.lookup t m x true) (K : Keyed P k) (ht : P.underlying t = some (.map k e)) {z : Value} (hz : ∀ W, (zeroValue e).run P W = .ok z W) {zd : DataW H} {zp : List MemPlace} (hzd : R z = some (zd, zp))
    (hm : a.eval m = .map (some (sz w.heap.size (shape L)))) (hown : MapB P k R n D ob) (key : Value) (kl : Lit) (hx : a.eval x = key) (hkey : keyOf P k key = some kl) (V : Value) (B : Bool) (hV : ∀ v ps, R v = some (D.atKey kl zd, ps) → v = V) (hB : Maps.has D kl = B)
    (hK : wpList P ops Q rest (a.put o.dst (.tuple #[V, .bool B])) (wd w (A ++ #[ob] :: L) nd)) : wpList P ops Q (o :: rest) a (wd w (A ++ #[ob] :: L) nd) := by
  refine wpList_plain hg fun K' hK' => ?_
  obtain ⟨v, ps, hrun, hv⟩ := map_look2 hown K ht hz hzd hkey (wd w (A ++ #[ob] :: L) nd) _ (mid_at w ob L nd A)
  rw [hV v ps hv, hB] at hrun
  unfold Oper.wp
  simp [execOp, hop, hm, hx, hrun, Result.andThen]
  exact hK' _ _ hK
end
/-! ### where each key stands last -/
def iElem : Value → Option (DataW VRow × List MemPlace)
  | .int .i64 n => some (.lit (.int .i64 n), [])
  | _ => none
theorem iElem_inv {v : Value} {n : Int} {ps : List MemPlace} (h : iElem v = some (.lit (.int .i64 n), ps)) : v = .int .i64 n := by
  unfold iElem at h
  split at h
  · simp at h; rw [h.1]
  · cases h
structure LastD (D : DataW VRow) (es : List (Int × Rec)) : Prop where
  map : IsMap D
  at' : ∀ k z, D.atKey (.string k) z = match lastE k es with | some e => .lit (.int .i64 e.1) | none => z
theorem LastD.made : LastD (.map []) [] := ⟨isMap_empty, fun k z => by simp [DataW.atKey, lastE]⟩
theorem LastD.put {D : DataW VRow} {es : List (Int × Rec)} (h : LastD D es) (o : Int) (r : Rec) (hk : r.keyed = true) : LastD (D.put (.string r.key) (.lit (.int .i64 o))) (es ++ [(o, r)]) := by
  refine ⟨h.map.put _ _, fun k z => ?_⟩
  rw [lastE_snoc]
  by_cases hkk : r.key = k
  · subst hkk
    rw [atKey_put_same h.map (show WideAt.IsKeyLit (.string _) from trivial), if_pos ⟨hk, rfl⟩]; rfl
  · rw [atKey_put_other (fun c => hkk (by simpa using c.symm)), h.at', if_neg (fun c => hkk c.2)]; simp
theorem LastD.skip {D : DataW VRow} {es : List (Int × Rec)} (h : LastD D es) (o : Int) (r : Rec) (hk : r.keyed = false) : LastD D (es ++ [(o, r)]) :=
  ⟨h.map, fun k z => by rw [lastE_snoc, if_neg (by simp [hk]), h.at']; simp⟩
theorem LastD.has {D : DataW VRow} {es : List (Int × Rec)} (h : LastD D es) (k : List UInt8) : Maps.has D (.string k) = (lastE k es).isSome := by
  cases hl : lastE k es with
  | some e => exact has_true_of_atKey (y := .lit (.int .i64 e.1)) fun z => by rw [h.at', hl]
  | none => exact has_false_of_atKey fun z => by rw [h.at', hl]
theorem LastD.none {D : DataW VRow} {es : List (Int × Rec)} (h : LastD D es) {k : List UInt8} (hl : lastE k es = none) : ∀ v ps, iElem v = some (D.atKey (.string k) (.lit (.int .i64 0)), ps) → v = .int .i64 0 := fun v ps hv => by
  rw [h.at', hl] at hv; exact iElem_inv hv
theorem LastD.some {D : DataW VRow} {es : List (Int × Rec)} (h : LastD D es) {k : List UInt8} {e : Int × Rec} (hl : lastE k es = some e) : ∀ v ps, iElem v = some (D.atKey (.string k) (.lit (.int .i64 0)), ps) → v = .int .i64 e.1 := fun v ps hv => by
  rw [h.at', hl] at hv; exact iElem_inv hv
structure LastI (n : Nat) (es : List (Int × Rec)) (om : Obj) : Prop where
  out : ∃ D, MapB Try.prog 9 iElem n D om ∧ LastD D es
/-- The map handed back: what it tells in any world that has its block. -/
structure LastRet (w w' : World) (x : Ending) (es : List (Int × Rec)) : Prop where
  out : ∃ b, x = .returned (.map (some b)) ∧ More w w' ∧ b < w'.heap.size ∧ ∀ W, W.heap[b]? = w'.heap[b]? → ∀ k : List UInt8, k.length ≤ maxLen → (Instr.lookup 70 (.map (some b)) (.string (str k)) false).run Try.prog W = .ok (.int .i64 (lastO es k)) W
theorem last_look {n : Nat} {es : List (Int × Rec)} {om : Obj} (h : LastI n es om) {w' : World} {b : Nat} (hb : w'.heap[b]? = some om) : ∀ W, W.heap[b]? = w'.heap[b]? → ∀ k : List UInt8, k.length ≤ maxLen → (Instr.lookup 70 (.map (some b)) (.string (str k)) false).run Try.prog W = .ok (.int .i64 (lastO es k)) W := fun W hW k hk => by
  obtain ⟨D, hM, hD⟩ := h.out
  obtain ⟨v, ps, h1, h2⟩ := map_look (e := 3) (t := 70) hM (string_keyed Try.underlying9) Try.underlying70 (z := .int .i64 0) (fun W => Try.zeroValue3 W) (zd := .lit (.int .i64 0)) (zp := []) rfl (key := .string (str k)) (kl := .string k)
    (by have := WideMaps.keyOf_string_mk (P := Try.prog) Try.underlying9 (s := str k) (by rw [str_size]; exact hk); rwa [str_data] at this) W b (by rw [hW]; exact hb)
  rw [h1]
  unfold lastO
  cases hl : lastE k es with
  | some e => rw [hD.some hl v ps h2]
  | none => rw [hD.none hl v ps h2]
theorem ev_lt {a b : List (Int × Rec)} (hu : EvUp (a ++ b)) {n : Nat} {e : Int × Rec} (he : b[n]? = some e) : ∀ x ∈ a ++ b.take n, x.1 < e.1 := fun x hx => by
  have h1 := List.pairwise_append.1 hu
  rcases List.mem_append.1 hx with hx | hx
  · exact h1.2.2 x hx e (List.mem_of_getElem? he)
  · obtain ⟨j, hj⟩ := List.getElem?_of_mem hx
    rw [List.getElem?_take] at hj
    split at hj
    · next hlt =>
      obtain ⟨hi, rfl⟩ := List.getElem?_eq_some_iff.1 hj
      obtain ⟨hi2, rfl⟩ := List.getElem?_eq_some_iff.1 he
      exact List.pairwise_iff_getElem.1 h1.2.1 j n hi hi2 hlt
    · cases hj
theorem evB_at {b : Bat} {k : Nat} {r : Rec} (h : b.recs[k]? = some r) : (evB b)[k]? = some (b.base + r.delta, r) := by
  unfold evB; rw [List.getElem?_map, h]; rfl
theorem evB_len (b : Bat) : (evB b).length = b.recs.length := by unfold evB; rw [List.length_map]
theorem evs_snoc {l : List Bat} {i : Nat} {b : Bat} (h : l[i]? = some b) : evs (l.take (i + 1)) = evs (l.take i) ++ evB b := by
  unfold evs
  rw [List.take_add_one, h]
  simp
theorem evs_part {l : List Bat} (hu : EvUp (evs l)) (i : Nat) : EvUp (evs (l.take i)) := by
  have e : evs l = evs (l.take i) ++ evs (l.drop i) := by
    unfold evs; rw [← List.flatMap_append, List.take_append_drop]
  rw [e] at hu
  exact (List.pairwise_append.1 hu).1
theorem rises_mem : ∀ {l : List Bat} {n : Int}, risesB n l = true → ∀ b ∈ l, batCheck b = 0
  | [], _, _, b, hb => by cases hb
  | x :: l, n, h, b, hb => by
    obtain ⟨h1, _, h3⟩ := rises_cons h
    rcases List.mem_cons.1 hb with rfl | hb
    · exact h1
    · exact rises_mem h3 b hb
theorem take_snoc {α : Type} {l : List α} {k : Nat} {x : α} (h : l[k]? = some x) : l.take (k + 1) = l.take k ++ [x] := by
  rw [List.take_add_one, h]; rfl
set_option maxRecDepth 100000 in
set_option maxHeartbeats 6400000 in
theorem last_any (ad : Option Addr) (cap : Nat) (l : List Btm) (w : World) (h : BatsAt w ad l) (hl : l.length ≤ 12) (hr : risesB 0 (l.map Btm.b) = true) :
    Calls Try.prog 31 #[.slice ad l.length cap] w fun e w' => LastRet w w' e (evs (l.map Btm.b)) := by
  have HA := Lib.hid h
  have HU := Lib.hid (evs_up hr).1
  have HC := Lib.hid (rises_mem hr)
  obtain ⟨L, hL⟩ : ∃ L, l.map Btm.b = L := ⟨_, rfl⟩
  have HL := Lib.hid hL
  rw [hL] at HU HC ⊢
  obtain ⟨N, hN⟩ : ∃ N, l.length = N := ⟨_, rfl⟩
  have HN := Lib.hid hN
  have HNL : Hid (L.length = N) := Lib.hid (by rw [← hL, List.length_map]; exact hN)
  rw [hN] at hl ⊢
  clear h hr hL hN
  have hmk1 := fun W => run_makeMap (P := Try.prog) 70 W
  refine calls_wd ?_
  go_enter Try.func31, Try.ntmps31
  go_wp2
  clear hmk1
  go_loopw [14] (fun i wr => ∃ (k : Nat) (m : Ext) (om : Obj), k ≤ N ∧ i = .int .i64 k ∧ wr = wd w [m.e, #[om]] m.n ∧ Hid (LastI (32 * k) (evs (L.take k)) om)) (fun i _ => N - (intOf i).toNat)
  case atStart => exact ⟨0, ⟨#[], _⟩, _, Nat.zero_le _, rfl, (wd_empty _ _ _).symm, Lib.hid ⟨_, mapb_made w, LastD.made⟩⟩
  case round =>
    obtain ⟨i, m, om, hiN, rfl, rfl, HI⟩ := hrel
    by_cases hlt : i < N
    · obtain ⟨x, hx⟩ : ∃ x, l[i]? = some x := ⟨_, List.getElem?_eq_getElem (by rw [HN.out]; exact hlt)⟩
      obtain ⟨bb, off, rfl, hb, c0, c1, c2, c3, c4, c5⟩ := bats_at HA.out i x hx
      have HR := Lib.hid (HA.out.each x (List.mem_of_getElem? hx))
      have hxL : L[i]? = some x.b := by rw [← HL.out, List.getElem?_map, hx]; rfl
      have HX := Lib.hid hxL
      have hck := HC.out x.b (List.mem_of_getElem? hxL)
      have HCK := Lib.hid (batCheck_ok hck).2
      obtain ⟨q1, q2, q3, q4, -, -, -, -, -, -, q5⟩ := batNum_ok (batCheck_ok hck).1
      have HUP := Lib.hid (show EvUp (evs (L.take i) ++ evB x.b) by rw [← evs_snoc hxL]; exact evs_part HU.out _)
      obtain ⟨⟨b0, b1, b2, b3, b4, recs⟩, xa, xc⟩ := x
      dsimp only at c0 c1 c2 c3 c4 c5 HR HX HCK q1 q2 q3 q4 q5 HUP
      obtain ⟨M, hM⟩ : ∃ M, recs.length = M := ⟨_, rfl⟩
      have HM := Lib.hid hM
      rw [hM] at q5 c5
      clear hx hxL hck hM
      go_wp2
      go_loopw [21] (fun s21 wr => ∃ (k : Nat) (m2 : Ext) (oz : Obj), k ≤ M ∧ s21 = .int .i64 k ∧ wr = wd w [m2.e, qblk b0 b1 b2 b3 b4 xa M xc, m.e, #[oz]] m2.n ∧ Hid (LastI (32 * i + k) (evs (L.take i) ++ (evB ⟨b0, b1, b2, b3, b4, recs⟩).take k) oz)) (fun s21 _ => M - (intOf s21).toNat)
      case atStart => exact ⟨0, ⟨#[], _⟩, om, Nat.zero_le _, rfl, (wd_empty _ _ _).symm, by rw [List.take_zero, List.append_nil]; exact HI⟩
      case round =>
        obtain ⟨k, m2, oz, hkM, rfl, rfl, HJ⟩ := hrel
        by_cases hk : k < M
        · obtain ⟨r, hr⟩ : ∃ r, recs[k]? = some r := ⟨_, List.getElem?_eq_getElem (by rw [HM.out]; exact hk)⟩
          obtain ⟨rb, ro, rfl, hrb, r0, r1, r2, r3, r4, r5⟩ := recs_at HR.out k r hr
          have hce := chk_each HCK.out r (List.mem_of_getElem? hr)
          have hkl := (recCheck_row hce.1).1
          have hd1 := hce.2.1
          have hd2 := hce.2.2
          have HE := Lib.hid (take_snoc (evB_at (b := ⟨b0, b1, b2, b3, b4, recs⟩) hr))
          have HLT := Lib.hid (ev_lt HUP.out (evB_at (b := ⟨b0, b1, b2, b3, b4, recs⟩) hr))
          obtain ⟨D, hmb, hld⟩ := HJ.out.out
          have HMB := Lib.hid hmb
          have HLD := Lib.hid hld
          have HKEY := Lib.hid (WideMaps.keyOf_string_mk (P := Try.prog) Try.underlying9 (s := str r.key) (by rw [str_size]; unfold maxLen; omega))
          rw [str_data] at HKEY
          clear hr hce hmb hld HJ
          obtain ⟨rd, rt, rk, rkey, rdead, rval⟩ := r
          dsimp only at r0 r1 r2 r3 r4 r5 hkl hd1 hd2 HE HLT HKEY
          cases rk with
          | false =>
            have HI2 : Hid (LastI (32 * i + (k + 1)) (evs (L.take i) ++ (evB ⟨b0, b1, b2, b3, b4, recs⟩).take (k + 1)) oz) := Lib.hid ⟨D, mapb_mono HMB.out (by omega), by rw [HE.out, ← List.append_assoc]; exact HLD.out.skip _ _ rfl⟩
            clear HMB HLD HE HLT HKEY
            go_wp2
            go_roundw
            case rel => exact ⟨k + 1, ⟨m2.e ++ _, _⟩, oz, by omega, by go_num, by rw [wd_merge], HI2⟩
            case measure => simp [intOf]; omega
          | true =>
            obtain ⟨es, hes⟩ : ∃ es, evs (L.take i) ++ (evB ⟨b0, b1, b2, b3, b4, recs⟩).take k = es := ⟨_, rfl⟩
            rw [hes] at HLD HLT
            have HE2 : Hid (evs (L.take i) ++ (evB ⟨b0, b1, b2, b3, b4, recs⟩).take (k + 1) = es ++ [(b0 + rd, ⟨rd, rt, true, rkey, rdead, rval⟩)]) := Lib.hid (by rw [HE.out, ← List.append_assoc, hes])
            clear HE hes
            cases hle : lastE rkey es with
            | none =>
              have HV := Lib.hid (HLD.out.none hle)
              have HHAS : Hid (Maps.has D (.string rkey) = false) := Lib.hid (by rw [HLD.out.has, hle]; rfl)
              clear hle HLT
              go_wp2_with (first
                | (at_lookup; refine wp_lookup2_wd [_, _, _, _] [] rfl _ _ rfl (string_keyed Try.underlying9) Try.underlying70 (z := .int .i64 0) (fun W => Try.zeroValue3 W) (zd := .lit (.int .i64 0)) (zp := []) rfl rfl HMB.out _ (.string rkey) rfl HKEY.out (.int .i64 0) false HV.out HHAS.out ?_; simp only [List.cons_append, List.nil_append])
                | (at_mapUpdate; refine wp_mapUpdate_wd [_, _, _, _] [] rfl _ _ _ rfl (string_keyed Try.underlying9) Try.underlying70 rfl HMB.out (by unfold maxLen; omega) _ _ (.string rkey) rfl rfl HKEY.out (.lit (.int .i64 (b0 + rd))) [] rfl ?_; intro oz2 hoz2; have HO2 := Lib.hid hoz2; clear hoz2; simp only [List.cons_append, List.nil_append]))
              go_roundw
              case rel => exact ⟨k + 1, ⟨m2.e ++ _, _⟩, oz2, by omega, by go_num, by rw [wd_merge], Lib.hid ⟨_, HO2.out, by rw [HE2.out]; exact HLD.out.put (b0 + rd) ⟨rd, rt, true, rkey, rdead, rval⟩ rfl⟩⟩
              case measure => simp [intOf]; omega
            | some e9 =>
              have hlt9 : e9.1 < b0 + rd := HLT.out e9 (lastE_mem hle).1
              have hd9 : decide (e9.1 < b0 + rd) = true := decide_eq_true hlt9
              have HV := Lib.hid (HLD.out.some hle)
              have HHAS : Hid (Maps.has D (.string rkey) = true) := Lib.hid (by rw [HLD.out.has, hle]; rfl)
              obtain ⟨o9, r9⟩ := e9
              dsimp only at hlt9 hd9 HV
              clear hle HLT
              go_wp2_with (first
                | (at_lookup; refine wp_lookup2_wd [_, _, _, _] [] rfl _ _ rfl (string_keyed Try.underlying9) Try.underlying70 (z := .int .i64 0) (fun W => Try.zeroValue3 W) (zd := .lit (.int .i64 0)) (zp := []) rfl rfl HMB.out _ (.string rkey) rfl HKEY.out (.int .i64 o9) true HV.out HHAS.out ?_; simp only [List.cons_append, List.nil_append])
                | (at_mapUpdate; refine wp_mapUpdate_wd [_, _, _, _] [] rfl _ _ _ rfl (string_keyed Try.underlying9) Try.underlying70 rfl HMB.out (by unfold maxLen; omega) _ _ (.string rkey) rfl rfl HKEY.out (.lit (.int .i64 (b0 + rd))) [] rfl ?_; intro oz2 hoz2; have HO2 := Lib.hid hoz2; clear hoz2; simp only [List.cons_append, List.nil_append]))
              go_roundw
              case rel => exact ⟨k + 1, ⟨m2.e ++ _, _⟩, oz2, by omega, by go_num, by rw [wd_merge], Lib.hid ⟨_, HO2.out, by rw [HE2.out]; exact HLD.out.put (b0 + rd) ⟨rd, rt, true, rkey, rdead, rval⟩ rfl⟩⟩
              case measure => simp [intOf]; omega
        · obtain rfl : k = M := by omega
          have HI2 : Hid (LastI (32 * (i + 1)) (evs (L.take (i + 1))) oz) := Lib.hid (by
            have ht : (evB ⟨b0, b1, b2, b3, b4, recs⟩).take k = evB ⟨b0, b1, b2, b3, b4, recs⟩ := List.take_of_length_le (by rw [evB_len]; exact Nat.le_of_eq HM.out)
            have := HJ.out
            rw [ht] at this
            obtain ⟨D, h1, h2⟩ := this.out
            exact ⟨D, mapb_mono h1 (by omega), by rw [evs_snoc HX.out]; exact h2⟩)
          clear HJ HI
          go_wp2
          go_roundw
          case rel => exact ⟨i + 1, ⟨m.e ++ _, _⟩, oz, by omega, by go_num, by rw [wd_merge, wd_merge], HI2⟩
          case measure => simp [intOf]; omega
    · obtain rfl : i = N := by omega
      go_wp2
      go_ret
      have h1 := HI.out
      rw [List.take_of_length_le (by rw [HNL.out]; exact Nat.le_refl _)] at h1
      have h2 := mid_at w om [] m.n [m.e]
      exact ⟨_, rfl, more_wd _ _ _, (Array.getElem?_eq_some_iff.1 h2).1, last_look h1 h2⟩
end Go.Proofs.Ytlanghikmccmbaa
