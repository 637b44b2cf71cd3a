/- THE ENGINE, 21: what an operation does hangs on its operands alone. -/
import Derived.Test.YtifoekadjnlhcaaGreatDoorEG
noncomputable section
namespace Go.Proofs.YtifoekadjnlhcaaGreatDoor
open Go.RowKit
set_option linter.unusedVariables false
set_option linter.unusedSimpArgs false
namespace Ev
section
variable {P : Program} {ρ ρ' : Operand → Option Value} {H : Heap}
theorem valsV_congr : ∀ (l : List Operand), (∀ x ∈ l, ρ x = ρ' x) → valsV ρ l = valsV ρ' l
  | [], _ => rfl
  | x :: l, h => by simp only [valsV_cons, h x (by simp), valsV_congr l fun y hy => h y (by simp [hy])]
theorem partsV_congr : ∀ (l : List (Nat × Operand)), (∀ p ∈ l, ρ p.2 = ρ' p.2) → partsV ρ l = partsV ρ' l
  | [], _ => rfl
  | (i, x) :: l, h => by simp only [partsV, h (i, x) (by simp), partsV_congr l fun y hy => h y (by simp [hy])]
theorem optV_congr : ∀ (x : Option Operand), (∀ y, x = some y → ρ y = ρ' y) → optV ρ x = optV ρ' x
  | none, _ => rfl
  | some x, h => by simp only [optV, h x rfl]
theorem call_ops (c : Call) : (Op.call c).operands = c.operands := rfl
theorem args_in {c : Call} {x : Operand} (h : x ∈ c.args.toList) : x ∈ (Op.call c).operands := by
  rw [call_ops]; unfold Call.operands; simp at h ⊢; exact .inr h
theorem evP_congr (op : Op) (h : ∀ x ∈ op.operands, ρ x = ρ' x) : evP P ρ op = evP P ρ' op := by
  unfold evP
  cases op
  case call c =>
    simp only []
    cases hc : c.callee <;> simp only []
    rw [valsV_congr c.args.toList fun x hx => h x (args_in hx)]
  case makeFunc fn first captured =>
    cases fn <;> simp only []
    rw [valsV_congr first.toList fun x hx => h x (by simp [Op.operands] at hx ⊢; exact .inl hx), valsV_congr captured.toList fun x hx => h x (by simp [Op.operands] at hx ⊢; exact .inr hx)]
  case build t ps =>
    simp only []
    rw [partsV_congr ps.toList fun p hp => h p.2 (by simp only [Op.operands, List.mem_toArray, List.mem_map]; exact ⟨p, hp, rfl⟩)]
  case slice t x lo hi mx =>
    simp only []
    rw [h x (by simp [Op.operands]), optV_congr lo fun y hy => h y (by subst hy; simp [Op.operands]), optV_congr hi fun y hy => h y (by subst hy; simp [Op.operands]), optV_congr mx fun y hy => h y (by subst hy; simp [Op.operands])]
  case pick c a b => simp only []; rw [h c (by simp [Op.operands]), h a (by simp [Op.operands]), h b (by simp [Op.operands])]
  case binOp op t x y yt => simp only []; rw [h x (by simp [Op.operands]), h y (by simp [Op.operands])]
  case indexAddr t x y => simp only []; rw [h x (by simp [Op.operands]), h y (by simp [Op.operands])]
  case index t x y => simp only []; rw [h x (by simp [Op.operands]), h y (by simp [Op.operands])]
  all_goals first
    | rfl
    | (next x => simp only []; rw [h x (by simp [Op.operands])])
    | (next _ x => simp only []; rw [h x (by simp [Op.operands])])
    | (next x _ => simp only []; rw [h x (by simp [Op.operands])])
    | (next _ x _ => simp only []; rw [h x (by simp [Op.operands])])
    | (next _ _ x => simp only []; rw [h x (by simp [Op.operands])])
theorem evR_congr (op : Op) (h : ∀ x ∈ op.operands, ρ x = ρ' x) : evR P ρ H op = evR P ρ' H op := by
  unfold evR
  cases op
  case call c =>
    cases hc : c.callee with
    | value f => simp only [hc]
    | invoke r m => simp only [hc]
    | builtin b =>
      cases b <;> (try (simp only [hc]; done))
      simp only [hc]
      cases ha : c.args.toList with
      | nil => rfl
      | cons x l =>
        cases l with
        | nil =>
          cases ht : c.argTypes.toList with
          | nil => rfl
          | cons t ts => simp only []; rw [h x (args_in (by rw [ha]; simp))]
        | cons y l => rfl
  case lookup t x y ok => simp only []; rw [h x (by simp [Op.operands]), h y (by simp [Op.operands])]
  all_goals first
    | rfl
    | (next _ x => simp only []; rw [h x (by simp [Op.operands])])
    | (next _ _ x => simp only []; rw [h x (by simp [Op.operands])])
theorem evRd_congr (op : Op) (h : ∀ x ∈ op.operands, ρ x = ρ' x) : evRd P ρ H op = evRd P ρ' H op := by
  unfold evRd
  cases op
  case entry x => simp only []; rw [h x (by simp [Op.operands])]
  all_goals exact evR_congr _ h
theorem evN_congr (op : Op) (h : ∀ x ∈ op.operands, ρ x = ρ' x) : evN P ρ op = evN P ρ' op := by
  unfold evN
  cases op
  case buildSlice t n ps =>
    simp only []
    rw [partsV_congr ps.toList fun p hp => h p.2 (by simp only [Op.operands, List.mem_toArray, List.mem_map]; exact ⟨p, hp, rfl⟩)]
  case makeMap t r => simp only []; rw [optV_congr r fun y hy => h y (by subst hy; simp [Op.operands])]
  case makeSlice t x y => simp only []; rw [h x (by simp [Op.operands]), h y (by simp [Op.operands])]
  all_goals first
    | rfl
    | (next _ x => simp only []; rw [h x (by simp [Op.operands])])
    | (next _ _ x => simp only []; rw [h x (by simp [Op.operands])])
theorem evE_congr (op : Op) (h : ∀ x ∈ op.operands, ρ x = ρ' x) : evE P ρ H op = evE P ρ' H op := by
  unfold evE
  cases op
  case call c =>
    simp only []
    cases hc : c.callee <;> simp only []
    rw [valsV_congr c.args.toList fun x hx => h x (args_in hx)]
  case store t x y => simp only []; rw [h x (by simp [Op.operands]), h y (by simp [Op.operands])]
  case mapUpdate t x y z => simp only []; rw [h x (by simp [Op.operands]), h y (by simp [Op.operands]), h z (by simp [Op.operands])]
  case insert t x y z => simp only []; rw [h x (by simp [Op.operands]), h y (by simp [Op.operands]), h z (by simp [Op.operands])]
  all_goals first
    | rfl
    | (next _ x => simp only []; rw [h x (by simp [Op.operands])])
    | (next x _ => simp only []; rw [h x (by simp [Op.operands])])
theorem evOp_congr (op : Op) (h : ∀ x ∈ op.operands, ρ x = ρ' x) : evOp P ρ H op = evOp P ρ' H op := by
  unfold evOp
  rw [evP_congr op h, evRd_congr op h, evN_congr op h, evE_congr op h]
theorem runOp_congr {callF : Caller} (op : Op) (h : ∀ x ∈ op.operands, ρ x = ρ' x) : runOp P callF ρ H op = runOp P callF ρ' H op := by
  unfold runOp
  cases op
  case call c =>
    simp only []
    have : calleeV ρ c = calleeV ρ' c := by
      unfold calleeV
      cases hc : c.callee <;> simp only []
      next f =>
      rw [valsV_congr c.args.toList fun x hx => h x (args_in hx), h f (by rw [call_ops]; unfold Call.operands; rw [hc]; simp)]
    have that : yieldV ρ c = yieldV ρ' c := by
      unfold yieldV
      cases hc : c.callee <;> simp only []
      next f =>
      rw [valsV_congr c.args.toList fun x hx => h x (args_in hx), h f (by rw [call_ops]; unfold Call.operands; rw [hc]; simp)]
    rw [this, that, evOp_congr _ h]
  all_goals exact evOp_congr _ h
theorem tmp_looks {ops : Array Oper} {o : Oper} {t : Tmp} (h : Operand.tmp t ∈ o.op.operands) : t ∈ o.looksAt ops := by
  unfold Oper.looksAt
  rw [List.mem_append]
  left
  rw [List.mem_filterMap]
  exact ⟨.tmp t, by simpa using h, rfl⟩
end
end Ev
end Go.Proofs.YtifoekadjnlhcaaGreatDoor
noncomputable section
namespace Go.Proofs.YtifoekadjnlhcaaGreatDoor
open Go.RowKit
set_option linter.unusedVariables false
set_option linter.unusedSimpArgs false
namespace Ev
theorem foldl_bits {m : List Nat} {i : Nat} : ∀ (l : List Edge) (s : Nat), (l.foldl (fun s e => if Region.binds .any e && decide (e.on < m.length) then s ||| 2 ^ e.on ||| m.getD e.on 0 else s) s).testBit i = true →
    s.testBit i = true ∨ ∃ e ∈ l, Region.binds .any e = true ∧ e.on < m.length ∧ (e.on = i ∨ (m.getD e.on 0).testBit i = true)
  | [], s, h => .inl h
  | e :: l, s, h => by
    rw [List.foldl_cons] at h
    rcases foldl_bits l _ h with h | ⟨e', he', h'⟩
    · split at h
      · next hc =>
        simp only [Bool.and_eq_true, decide_eq_true_eq] at hc
        rw [Nat.testBit_or, Nat.testBit_or, Nat.testBit_two_pow] at h
        simp only [Bool.or_eq_true, decide_eq_true_eq] at h
        rcases h with (h | h) | h
        · exact .inl h
        · exact .inr ⟨e, by simp, hc.1, hc.2, .inl h⟩
        · exact .inr ⟨e, by simp, hc.1, hc.2, .inr h⟩
      · exact .inl h
    · exact .inr ⟨e', by simp [he'], h'⟩
theorem waits_pre : ∀ (l : List Oper) (m : List Nat) (j : Nat), j < m.length → (waits m l).getD j 0 = m.getD j 0
  | [], m, j, _ => rfl
  | o :: l, m, j, h => by
    rw [waits, waits_pre l _ j (by simp; omega)]
    simp [List.getD_eq_getElem?_getD, List.getElem?_append, h]
theorem waits_out : ∀ (l : List Oper) (m : List Nat) (j : Nat), m.length + l.length ≤ j → (waits m l).getD j 0 = 0
  | [], m, j, h => by simp [waits, List.getD_eq_getElem?_getD, List.getElem?_eq_none (show m.length ≤ j by simpa using h)]
  | o :: l, m, j, h => by rw [waits]; exact waits_out l _ j (by simp at h ⊢; omega)
theorem waits_ok : ∀ (l : List Oper) (m : List Nat) (j i : Nat), m.length ≤ j → ((waits m l).getD j 0).testBit i = true →
    ∃ o, l[j - m.length]? = some o ∧ ∃ e ∈ o.after.toList, Region.binds .any e = true ∧ e.on < j ∧ (e.on = i ∨ ((waits m l).getD e.on 0).testBit i = true)
  | [], m, j, i, hj, h => by rw [waits_out [] m j (by simpa using hj)] at h; simp at h
  | o :: l, m, j, i, hj, h => by
    rw [waits] at h ⊢
    by_cases he : j = m.length
    · subst he
      rw [waits_pre l _ _ (by simp)] at h
      have : (m ++ [waits1 m o]).getD m.length 0 = waits1 m o := by simp [List.getD_eq_getElem?_getD]
      rw [this] at h
      unfold waits1 at h
      rcases foldl_bits _ _ h with h | ⟨e, he, h1, h2, h3⟩
      · simp at h
      · refine ⟨o, by simp, e, he, h1, h2, ?_⟩
        rcases h3 with h3 | h3
        · exact .inl h3
        · right
          rw [waits_pre l _ _ (by simp; omega)]
          have : (m ++ [waits1 m o]).getD e.on 0 = m.getD e.on 0 := by simp [List.getD_eq_getElem?_getD, List.getElem?_append, h2]
          rw [this]; exact h3
    · obtain ⟨o', h1, h2⟩ := waits_ok l (m ++ [waits1 m o]) j i (by simp; omega) h
      refine ⟨o', ?_, h2⟩
      rw [← h1]
      simp only [List.length_append, List.length_singleton]
      rw [show j - m.length = (j - (m.length + 1)) + 1 by omega, List.getElem?_cons_succ]
theorem dep'_in {ops : Array Oper} {L : Nat → Prop} (hL : ∀ j o, L j → ops[j]? = some o → ∀ e ∈ o.after, Region.binds .any e = true → L e.on) :
    ∀ (j i : Nat), dep' (waits [] ops.toList) j i = true → (∀ o, ops[j]? = some o → ∀ e ∈ o.after, Region.binds .any e = true → L e.on) → L i := by
  intro j
  induction j using Nat.strongRecOn with
  | _ j ih =>
    intro i hd hp
    obtain ⟨o, ho, e, he, hb, hlt, h⟩ := waits_ok ops.toList [] j i (Nat.zero_le _) hd
    have ho' : ops[j]? = some o := by simpa using ho
    have hl := hp o ho' e (by simpa using he) hb
    rcases h with h | h
    · rw [← h]; exact hl
    · exact ih e.on hlt i h fun o' ho' e' he' hb' => hL e.on o' hl ho' e' he' hb'
section
variable (P : Program) (callF : Caller) (ops : Array Oper) (T0 : Tr Value) (H0 : Heap) (M : List Nat)
def TmpOk (h : List Ent) (T : Tr Value) : Prop :=
  ∀ t, (∀ e ∈ h, ∀ o, ops[e.i]? = some o → o.dst = some t → (T.get t).getD undef = e.v) ∧ ((∀ e ∈ h, ∀ o, ops[e.i]? = some o → o.dst ≠ some t) → (T.get t).getD undef = (T0.get t).getD undef)
def EntOk (e : Ent) : Prop := ∃ o, ops[e.i]? = some o ∧ match e.r with
  | .still => e.H' = e.H ∧ ((wantedV ops e.T o.guard = some false ∧ e.v = undef) ∨ (wantedV ops e.T o.guard = some true ∧ evP P (opV e.T) o.op = some e.v))
  | .read => e.H' = e.H ∧ wantedV ops e.T o.guard = some true
  | .made id ob => wantedV ops e.T o.guard = some true ∧ id = e.H.next ∧ e.H.add ob = some e.H' ∧ ∃ mk : Mk, evN P (opV e.T) o.op = some (ob, mk) ∧ e.v = mk.val id
  | .eff => (wantedV ops e.T o.guard = some false ∧ e.v = undef ∧ e.H' = e.H) ∨ (wantedV ops e.T o.guard = some true ∧ runOp P callF (opV e.T) e.H o.op = some (e.v, e.H'))
def isEff : Res → Bool
  | .eff => true
  | _ => false
def HistOk : List Ent → Tr Value → Heap → Nat → Prop
  | [], T, H, l => T = T0 ∧ H = H0 ∧ l = 0
  | e :: h, T, H, l => TmpOk ops T0 (e :: h) T ∧ H = e.H' ∧ l = e.l ∧ EntOk P callF ops e ∧ (∀ f : Ent, f ∈ h → f.i ≠ e.i) ∧ (∀ o : Oper, ops[e.i]? = some o → ∀ x : Edge, x ∈ o.after → Region.binds .any x = true → ∃ f : Ent, f ∈ h ∧ f.i = x.on) ∧
      ∃ l', (e.l = if isEff e.r then l' + 1 else l') ∧ HistOk h e.T e.H l'
def LvlOk : List Ent → Prop
  | [] => True
  | e :: h => (isEff e.r = false → ∀ f : Ent, f ∈ h → isEff f.r = true → f.l = e.l → dep' M e.i f.i = true) ∧ (isEff e.r = true → ∀ f : Ent, f ∈ h → isEff f.r = true → f.l + 1 = e.l → dep' M e.i f.i = true) ∧ LvlOk h
def RecOk (e : Ent) (A : Heap) : Prop := match e.r with
  | .read => ∀ o, ops[e.i]? = some o → evRd P (opV e.T) A o.op = some e.v
  | .made id ob => A.get id = some ob
  | _ => True
def ChkAt (h : List Ent) (A : Heap) (m : Nat) : Prop :=
  ∀ e : Ent, e ∈ h → isEff e.r = false → (e.l = m ∨ ∀ f : Ent, f ∈ h → isEff f.r = true → f.l = m → dep' M f.i e.i = false) → RecOk P ops e A
def AllChk : List Ent → Prop
  | [] => True
  | e :: h => (isEff e.r = true → ∀ l', e.l = l' + 1 → ChkAt P ops M h e.H l') ∧ AllChk h
end
section
variable {P : Program} {callF : Caller} {ops : Array Oper} {T0 : Tr Value} {H0 : Heap} {M : List Nat} {nt : Nat}
theorem TmpOk_nil : TmpOk ops T0 [] T0 := fun t => ⟨fun e he => by simp at he, fun _ => rfl⟩
theorem HistOk.tmp {h : List Ent} {T : Tr Value} {H : Heap} {l : Nat} (hh : HistOk P callF ops T0 H0 h T H l) : TmpOk ops T0 h T := by
  cases h with
  | nil => obtain ⟨rfl, _⟩ := hh; exact TmpOk_nil
  | cons e h => exact hh.1
def OneDst (ops : Array Oper) : Prop := ∀ (i j : Nat) (oi oj : Oper) (d : Tmp), ops[i]? = some oi → ops[j]? = some oj → oi.dst = some d → oj.dst = some d → i = j
theorem TmpOk.put (hone : OneDst ops) {h : List Ent} {T T' : Tr Value} {i : Nat} {o : Oper} {v : Value} (ht : TmpOk ops T0 h T) (ho : ops[i]? = some o) (hi : ∀ f ∈ h, f.i ≠ i) (hp : putT nt T o.dst v = some T') (e : Ent) (hei : e.i = i) (hev : e.v = v) :
    TmpOk ops T0 (e :: h) T' := by
  intro t
  unfold putT at hp
  cases hd : o.dst with
  | none =>
    rw [hd] at hp; cases hp
    refine ⟨fun f hf o' ho' hd' => ?_, fun hn => (ht t).2 fun f hf o' ho' => hn f (by simp [hf]) o' ho'⟩
    rcases List.mem_cons.1 hf with rfl | hf
    · rw [hei, ho] at ho'; cases ho'; rw [hd] at hd'; cases hd'
    · exact (ht t).1 f hf o' ho' hd'
  | some d =>
    rw [hd] at hp
    simp only at hp
    split at hp
    · next hlt =>
      have hg := Tr.get_set _ _ _ _ _ hp
      refine ⟨fun f hf o' ho' hd' => ?_, fun hn => ?_⟩
      · rw [hg]
        rcases List.mem_cons.1 hf with rfl | hf
        · rw [hei, ho] at ho'; cases ho'; rw [hd] at hd'; cases hd'
          rw [if_pos rfl, hev]; rfl
        · have : t ≠ d := fun e => by subst e; exact hi f hf (hone _ _ _ _ _ ho' ho hd' hd)
          rw [if_neg this]; exact (ht t).1 f hf o' ho' hd'
      · have hne : t ≠ d := fun e' => by subst e'; exact hn e (by simp) o (by rw [hei]; exact ho) hd
        rw [hg, if_neg hne]
        exact (ht t).2 fun f hf o' ho' => hn f (by simp [hf]) o' ho'
    · cases hp
def PS.Ok (P : Program) (callF : Caller) (ops : Array Oper) (T0 : Tr Value) (H0 : Heap) (s : PS) : Prop := HistOk P callF ops T0 H0 s.hist s.T s.H s.l
theorem did_ok (hone : OneDst ops) {s s' : PS} {o : Oper} {i : Nat} {v : Value} {r : Res} {l : Nat} {H' : Heap} (hs : s.Ok P callF ops T0 H0) (ho : ops[i]? = some o) (hd : s.did nt o i v r l H' = some s') (hi : ∀ f ∈ s.hist, f.i ≠ i)
    (hp : ∀ x ∈ o.after, Region.binds .any x = true → ∃ f ∈ s.hist, f.i = x.on) (hl : l = if isEff r then s.l + 1 else s.l) (he : EntOk P callF ops ⟨i, s.T, v, r, l, s.H, H'⟩) :
    s'.Ok P callF ops T0 H0 ∧ s'.hist = ⟨i, s.T, v, r, l, s.H, H'⟩ :: s.hist ∧ s'.l = l ∧ s'.H = H' := by
  unfold PS.did at hd
  split at hd
  · next T' hT =>
    cases hd
    refine ⟨⟨TmpOk.put hone hs.tmp ho hi hT _ rfl rfl, rfl, rfl, he, hi, fun o' ho' => ?_, s.l, hl, hs⟩, rfl, rfl, rfl⟩
    have : o' = o := Option.some.inj (ho'.symm.trans ho)
    rw [this]; exact hp
  · cases hd
theorem stepN_ok (hone : OneDst ops) {s s' : PS} {i : Nat} (hs : s.Ok P callF ops T0 H0) (h : stepN P nt ops s i = some s') (hi : ∀ f ∈ s.hist, f.i ≠ i) (hp : ∀ o, ops[i]? = some o → ∀ x ∈ o.after, Region.binds .any x = true → ∃ f ∈ s.hist, f.i = x.on) :
    s'.Ok P callF ops T0 H0 ∧ ∃ e : Ent, s'.hist = e :: s.hist ∧ e.i = i ∧ isEff e.r = false ∧ e.l = s.l ∧ s'.l = s.l := by
  unfold stepN at h
  split at h
  · next o ho =>
    have ho' : ops[i]? = some o := by simpa using ho
    have hp' := hp o ho'
    split at h
    · next hw =>
      obtain ⟨h1, h2, h3, h4⟩ := did_ok hone hs ho' h hi hp' rfl ⟨o, ho', rfl, .inl ⟨hw, rfl⟩⟩
      exact ⟨h1, _, h2, rfl, rfl, rfl, h3⟩
    · next hw =>
      split at h
      · next v hv =>
        obtain ⟨h1, h2, h3, h4⟩ := did_ok hone hs ho' h hi hp' rfl ⟨o, ho', rfl, .inr ⟨hw, hv⟩⟩
        exact ⟨h1, _, h2, rfl, rfl, rfl, h3⟩
      · split at h
        · next v hv =>
          obtain ⟨h1, h2, h3, h4⟩ := did_ok hone hs ho' h hi hp' rfl ⟨o, ho', rfl, hw⟩
          exact ⟨h1, _, h2, rfl, rfl, rfl, h3⟩
        · split at h
          · next ob m hm =>
            split at h
            · next H' hH =>
              obtain ⟨h1, h2, h3, h4⟩ := did_ok hone hs ho' h hi hp' rfl ⟨o, ho', hw, rfl, hH, m, hm, rfl⟩
              exact ⟨h1, _, h2, rfl, rfl, rfl, h3⟩
            · cases h
          · cases h
    · cases h
  · cases h
theorem stepE_ok (hone : OneDst ops) {s s' : PS} {i : Nat} (hs : s.Ok P callF ops T0 H0) (h : stepE P callF nt ops s i = some s') (hi : ∀ f ∈ s.hist, f.i ≠ i) (hp : ∀ o, ops[i]? = some o → ∀ x ∈ o.after, Region.binds .any x = true → ∃ f ∈ s.hist, f.i = x.on) :
    s'.Ok P callF ops T0 H0 ∧ ∃ e : Ent, s'.hist = e :: s.hist ∧ e.i = i ∧ isEff e.r = true ∧ e.l = s.l + 1 ∧ s'.l = s.l + 1 ∧ e.H = s.H := by
  unfold stepE at h
  split at h
  · next o ho =>
    have ho' : ops[i]? = some o := by simpa using ho
    have hp' := hp o ho'
    split at h
    · next hw =>
      obtain ⟨h1, h2, h3, h4⟩ := did_ok hone hs ho' h hi hp' rfl ⟨o, ho', .inl ⟨hw, rfl, rfl⟩⟩
      exact ⟨h1, _, h2, rfl, rfl, rfl, h3, rfl⟩
    · next hw =>
      split at h
      · next v H' hv =>
        obtain ⟨h1, h2, h3, h4⟩ := did_ok hone hs ho' h hi hp' rfl ⟨o, ho', .inr ⟨hw, hv⟩⟩
        exact ⟨h1, _, h2, rfl, rfl, rfl, h3, rfl⟩
      · cases h
    · cases h
  · cases h
theorem recheck_ok {s : PS} {e : Ent} (hs : s.Ok P callF ops T0 H0) (he : e ∈ s.hist) (h : recheck P ops s e.i = true) : RecOk P ops e s.H := by
  have huniq : ∀ (hh : List Ent) (T : Tr Value) (H : Heap) (l : Nat), HistOk P callF ops T0 H0 hh T H l → ∀ e ∈ hh, hh.find? (fun f => f.i == e.i) = some e := by
    intro hh
    induction hh with
    | nil => intro T H l _ e he; simp at he
    | cons f hh ih =>
      intro T H l hok e he
      obtain ⟨_, _, _, _, hne, _, l', _, hr⟩ := hok
      rw [List.find?_cons]
      rcases List.mem_cons.1 he with rfl | he
      · simp
      · have : (f.i == e.i) = false := by simp; exact fun h => hne e he h.symm
        rw [this]; exact ih _ _ _ hr e he
  unfold recheck at h
  rw [huniq _ _ _ _ hs e he] at h
  unfold RecOk
  split at h
  · next e' o he' ho =>
    cases he'
    have ho' : ops[e.i]? = some o := by simpa using ho
    cases hr : e.r with
    | read =>
      rw [hr] at h
      simp only at h
      intro o' ho''
      have : o' = o := Option.some.inj (ho''.symm.trans ho')
      subst this
      split at h
      · next u hu => rw [hu, beqV_eq _ _ h]
      · cases h
    | made id ob =>
      rw [hr] at h
      simp only at h
      split at h
      · next ob' hob => show s.H.get id = some ob; rw [hob, beqO_eq _ _ h]
      · cases h
    | still => trivial
    | eff => trivial
  · cases h
structure Final (P : Program) (callF : Caller) (ops : Array Oper) (T0 : Tr Value) (H0 : Heap) (M : List Nat) (s : PS) : Prop where
  ok : s.Ok P callF ops T0 H0
  lvl : LvlOk M s.hist
  chk : AllChk P ops M s.hist
def OpenOk (M : List Nat) (s : PS) (before : List Nat) : Option Nat → Prop
  | none => s.hist = [] ∧ s.l = 0 ∧ before = []
  | some e => (∃ f : Ent, f ∈ s.hist ∧ isEff f.r = true ∧ f.l = s.l ∧ f.i = e) ∧ (∀ f : Ent, f ∈ s.hist → isEff f.r = true → f.l ≤ s.l ∧ (f.l = s.l → f.i = e)) ∧ (∀ f : Ent, f ∈ s.hist → isEff f.r = false → f.i ∈ before ∧ f.l < s.l)
theorem behindB_cons (ops : Array Oper) (done l : List Nat) (i : Nat) : behindB ops done (i :: l) = ((!done.contains i && decide (i < ops.size) && (match ops.toList[i]? with | some o => o.after.all fun e => !Region.binds .any e || done.contains e.on | none => false)) && behindB ops (i :: done) l) := rfl
theorem behind_split (ops : Array Oper) : ∀ (a b done : List Nat), behindB ops done (a ++ b) = true → behindB ops done a = true ∧ behindB ops (a.reverse ++ done) b = true
  | [], b, done, h => ⟨rfl, h⟩
  | i :: a, b, done, h => by
    rw [List.cons_append, behindB_cons, Bool.and_eq_true] at h
    rw [behindB_cons, Bool.and_eq_true]
    obtain ⟨h1, h2⟩ := h
    obtain ⟨g1, g2⟩ := behind_split ops a b _ h2
    exact ⟨⟨h1, g1⟩, by rw [List.reverse_cons, List.append_assoc]; exact g2⟩
theorem behind_one {done l : List Nat} {i : Nat} {s : PS} (h : behindB ops done (i :: l) = true) (hd : done = s.hist.map (·.i)) : (∀ f ∈ s.hist, f.i ≠ i) ∧ (∀ o, ops[i]? = some o → ∀ x ∈ o.after, Region.binds .any x = true → ∃ f ∈ s.hist, f.i = x.on) ∧ behindB ops (i :: done) l = true ∧ i < ops.size := by
  unfold behindB at h
  simp only [Bool.and_eq_true, Bool.not_eq_true', decide_eq_true_eq] at h
  obtain ⟨⟨⟨h1, h2⟩, h3⟩, h4⟩ := h
  refine ⟨fun f hf e => ?_, fun o ho x hx hb => ?_, h4, h2⟩
  · have : i ∈ done := by rw [hd, List.mem_map]; exact ⟨f, hf, e⟩
    simp [this] at h1
  · have ho' : ops.toList[i]? = some o := by simpa using ho
    rw [ho'] at h3
    simp only at h3
    have := (Array.all_eq_true'.1 h3) x hx
    rw [hb] at this
    simp only [Bool.not_true, Bool.false_or, List.contains_iff_mem] at this
    rw [hd, List.mem_map] at this
    obtain ⟨f, hf, e⟩ := this
    exact ⟨f, hf, e⟩
theorem stepsN_ok (hone : OneDst ops) : ∀ (ns : List Nat) (s s' : PS) (old : List Ent), Final P callF ops T0 H0 M s → stepsN P nt ops ns s = some s' → behindB ops (s.hist.map (·.i)) ns = true →
    (∃ new, s.hist = new ++ old ∧ ∀ f ∈ new, isEff f.r = false ∧ f.l = s.l) → (∀ f ∈ old, isEff f.r = true → f.l = s.l → ∀ i ∈ ns, dep' M i f.i = true) →
    Final P callF ops T0 H0 M s' ∧ s'.l = s.l ∧ (s'.hist.map (·.i)) = ns.reverse ++ s.hist.map (·.i) ∧ (∃ new, s'.hist = new ++ old ∧ (∀ f ∈ new, isEff f.r = false ∧ f.l = s.l)) ∧ (∃ add, s'.hist = add ++ s.hist ∧ ∀ f ∈ add, f.i ∈ ns)
  | [], s, s', old, hF, h, _, hn, _ => by cases h; exact ⟨hF, rfl, rfl, hn, [], rfl, by simp⟩
  | i :: ns, s, s', old, hF, h, hb, hn, hd => by
    unfold stepsN at h
    split at h
    · next s1 h1 =>
      obtain ⟨b1, b2, b3, b4⟩ := behind_one hb rfl
      obtain ⟨g1, e, g2, g3, g4, g5, g6⟩ := stepN_ok hone hF.ok h1 b1 b2
      obtain ⟨new, hnew, hnew2⟩ := hn
      have hF1 : Final P callF ops T0 H0 M s1 := by
        refine ⟨g1, ?_, ?_⟩
        · rw [g2]
          refine ⟨fun _ f hf hfe hfl => ?_, (fun he => by rw [g4] at he; cases he), hF.lvl⟩
          rw [hnew] at hf
          rcases List.mem_append.1 hf with hf | hf
          · rw [(hnew2 f hf).1] at hfe; cases hfe
          · rw [g3]; exact hd f hf hfe (hfl.trans g5) i (by simp)
        · rw [g2]; exact ⟨(fun he => by rw [g4] at he; cases he), hF.chk⟩
      obtain ⟨k1, k2, k3, k4, add, k5, k6⟩ := stepsN_ok hone ns s1 s' old hF1 h (by rw [g2]; simpa [g3] using b3) ⟨e :: new, by rw [g2, hnew]; rfl, fun f hf => by
        rcases List.mem_cons.1 hf with rfl | hf
        · exact ⟨g4, g5.trans g6.symm⟩
        · rw [g6]; exact hnew2 f hf⟩ (fun f hf h1 h2 j hj => hd f hf h1 (by rw [← g6]; exact h2) j (by simp [hj]))
      refine ⟨k1, k2.trans g6, by rw [k3, g2]; simp [g3], by rw [g6] at k4; exact k4, add ++ [e], by rw [k5, g2]; simp, fun f hf => ?_⟩
      rcases List.mem_append.1 hf with hf | hf
      · simp [k6 f hf]
      · simp at hf; subst hf; simp [g3]
    · cases h
theorem runPlan_final (hone : OneDst ops) : ∀ (p : Plan) (s s' : PS) (before : List Nat) (opened : Option Nat), Final P callF ops T0 H0 M s → runPlan P callF nt ops p s = some s' → behindB ops (s.hist.map (·.i)) p.ord = true → chkB M p before opened = true →
    OpenOk M s before opened → (p = [] → ChkAt P ops M s.hist s.H s.l) → Final P callF ops T0 H0 M s' ∧ ChkAt P ops M s'.hist s'.H s'.l ∧ (s'.hist.map (·.i)) = p.ord.reverse ++ s.hist.map (·.i)
  | [], s, s', before, opened, hF, h, _, _, _, hc => by cases h; exact ⟨hF, hc rfl, rfl⟩
  | l :: p, s, s', before, opened, hF, h, hb, hch, ho, _ => by
    unfold runPlan at h
    unfold chkB at hch
    simp only [Bool.and_eq_true] at hch
    obtain ⟨⟨⟨c1, c2⟩, c3⟩, c4⟩ := hch
    have hord : Plan.ord (l :: p) = l.ns ++ (l.e.toList ++ Plan.ord p) := by simp [Plan.ord, Lvl.ord]
    rw [hord] at hb
    obtain ⟨hb1, hb2⟩ := behind_split ops _ _ _ hb
    split at h
    · next s1 h1 =>
      split at h
      · next hrc =>
        have hd : ∀ f ∈ s.hist, isEff f.r = true → f.l = s.l → ∀ i ∈ l.ns, dep' M i f.i = true := by
          intro f hf hfe hfl i hi
          cases opened with
          | none => rw [ho.1] at hf; simp at hf
          | some e =>
            simp only [Bool.and_eq_true] at c2
            have := (ho.2.1 f hf hfe).2 hfl
            rw [this]; exact (List.all_eq_true.1 c2.1.2) i hi
        obtain ⟨k1, k2, k3, ⟨new, k4, k4'⟩, add, k5, k6⟩ := stepsN_ok hone l.ns s s1 s.hist hF h1 hb1 ⟨[], rfl, by simp⟩ hd
        have hadd : add = new := by rw [k4] at k5; exact (List.append_cancel_right k5).symm
        subst hadd
        have hchk : ChkAt P ops M s1.hist s1.H s1.l := by
          intro e he hee hcond
          refine recheck_ok k1.ok he ((List.all_eq_true.1 hrc) e.i ?_)
          rw [k4] at he
          rcases List.mem_append.1 he with he | he
          · have := (List.all_eq_true.1 c1) e.i (k6 e he); simpa using this
          · cases opened with
            | none => rw [ho.1] at he; simp at he
            | some q =>
              obtain ⟨⟨f, hf1, hf2, hf3, hf4⟩, o2, o3⟩ := ho
              obtain ⟨hbe, hlt⟩ := o3 e he hee
              simp only [Bool.and_eq_true] at c2
              have h3 := (List.all_eq_true.1 c2.1.1) e.i hbe
              rcases hcond with hcond | hcond
              · rw [k2] at hcond; omega
              · have := hcond f (by rw [k4]; simp [hf1]) hf2 (hf3.trans k2.symm)
                rw [hf4] at this
                rw [this] at h3
                simpa using h3
        cases hle : l.e with
        | none =>
          rw [hle] at h
          simp only at h
          have hp : p = [] := by rw [hle] at c3; cases p <;> simp at c3 ⊢
          subst hp
          cases h
          exact ⟨k1, hchk, by rw [k3, hord, hle]; simp [Plan.ord]⟩
        | some e' =>
          rw [hle] at h hb2 c2 c3 c4
          simp only at h
          split at h
          · next s2 h2 =>
            have hb2' : behindB ops (s1.hist.map (·.i)) (e' :: Plan.ord p) = true := by rw [k3]; simpa using hb2
            obtain ⟨b1, b2, b3, b4⟩ := behind_one hb2' rfl
            obtain ⟨g1, q, g2, g3, g4, g5, g6, g7⟩ := stepE_ok hone k1.ok h2 b1 b2
            have heff : ∀ f ∈ s1.hist, isEff f.r = true → f ∈ s.hist := by
              intro f hf hfe
              rw [k4] at hf
              rcases List.mem_append.1 hf with hf | hf
              · rw [(k4' f hf).1] at hfe; cases hfe
              · exact hf
            have hF2 : Final P callF ops T0 H0 M s2 := by
              refine ⟨g1, ?_, ?_⟩
              · rw [g2]
                refine ⟨(fun he => by rw [g4] at he; cases he), fun _ f hf hfe hfl => ?_, k1.lvl⟩
                have hf' := heff f hf hfe
                cases opened with
                | none => rw [ho.1] at hf'; simp at hf'
                | some o =>
                  have := (ho.2.1 f hf' hfe).2 (by rw [g5, k2] at hfl; omega)
                  simp only [Bool.and_eq_true] at c2
                  rw [this, g3]; exact c2.2
              · rw [g2]
                refine ⟨fun _ l' hl' => ?_, k1.chk⟩
                have : l' = s1.l := by rw [g5] at hl'; omega
                rw [this, g7]; exact hchk
            have hopen : OpenOk M s2 (before ++ l.ns) (some e') := by
              refine ⟨⟨q, by rw [g2]; simp, g4, by rw [g5, g6], g3⟩, fun f hf hfe => ?_, fun f hf hfe => ?_⟩
              · rw [g2] at hf
                rcases List.mem_cons.1 hf with rfl | hf
                · exact ⟨by rw [g5, g6]; exact Nat.le_refl _, fun _ => g3⟩
                · have hf' := heff f hf hfe
                  cases opened with
                  | none => rw [ho.1] at hf'; simp at hf'
                  | some o =>
                    have := (ho.2.1 f hf' hfe).1
                    rw [g6, k2]; exact ⟨by omega, fun h => by omega⟩
              · rw [g2] at hf
                rcases List.mem_cons.1 hf with rfl | hf
                · rw [g4] at hfe; cases hfe
                · rw [k4] at hf
                  rcases List.mem_append.1 hf with hf | hf
                  · exact ⟨by simp [k6 f hf], by rw [(k4' f hf).2, g6, k2]; omega⟩
                  · cases opened with
                    | none => rw [ho.1] at hf; simp at hf
                    | some o =>
                      obtain ⟨m1, m2⟩ := ho.2.2 f hf hfe
                      exact ⟨by simp [m1], by rw [g6, k2]; omega⟩
            have hpne : p ≠ [] := by intro e; subst e; simp at c3
            obtain ⟨r1, r2, r3⟩ := runPlan_final hone p s2 s' (before ++ l.ns) (some e') hF2 h (by rw [g2]; simpa [g3] using b3) c4 hopen (fun e => absurd e hpne)
            refine ⟨r1, r2, ?_⟩
            rw [r3, g2, hord, hle]
            simp [g3, k3]
          · cases h
      · cases h
    · cases h
end
end Ev
end Go.Proofs.YtifoekadjnlhcaaGreatDoor
noncomputable section
namespace Go.Proofs.YtifoekadjnlhcaaGreatDoor
open Go.RowKit
set_option linter.unusedVariables false
set_option linter.unusedSimpArgs false
namespace Ev
section
variable {P : Program} {callF : Caller} {ops : Array Oper} {T0 : Tr Value} {H0 : Heap} {M : List Nat} {nt : Nat}
theorem lev_le : ∀ {h : List Ent} {T : Tr Value} {H : Heap} {l : Nat}, HistOk P callF ops T0 H0 h T H l → ∀ e ∈ h, e.l ≤ l
  | [], _, _, _, _, e, he => by simp at he
  | f :: h, T, H, l, hh, e, he => by
    obtain ⟨_, _, hl, _, _, _, l', hl', hr⟩ := hh
    rcases List.mem_cons.1 he with rfl | he
    · omega
    · have := lev_le hr e he
      split at hl' <;> omega
theorem hist_split : ∀ {l1 l2 : List Ent} {e : Ent} {T : Tr Value} {H : Heap} {l : Nat}, HistOk P callF ops T0 H0 (l1 ++ e :: l2) T H l →
    (∃ T' H' l'', HistOk P callF ops T0 H0 (e :: l2) T' H' l'') ∧ (∀ f ∈ l1, e.l ≤ f.l ∧ (isEff f.r = true → e.l < f.l))
  | [], l2, e, T, H, l, hh => ⟨⟨T, H, l, hh⟩, by simp⟩
  | g :: l1, l2, e, T, H, l, hh => by
    obtain ⟨_, _, hl, _, _, _, l', hl', hr⟩ := hh
    obtain ⟨h1, h2⟩ := hist_split hr
    refine ⟨h1, fun f hf => ?_⟩
    have hle := lev_le hr e (by simp)
    rcases List.mem_cons.1 hf with rfl | hf
    · split at hl'
      · exact ⟨by omega, fun _ => by omega⟩
      · next hne => exact ⟨by omega, fun h => absurd h hne⟩
    · exact h2 f hf
theorem eff_ex : ∀ {h : List Ent} {T : Tr Value} {H : Heap} {l : Nat}, HistOk P callF ops T0 H0 h T H l → ∀ k, 1 ≤ k → k ≤ l → ∃ f ∈ h, isEff f.r = true ∧ f.l = k
  | [], _, _, l, hh, k, h1, h2 => by obtain ⟨_, _, rfl⟩ := hh; omega
  | e :: h, T, H, l, hh, k, h1, h2 => by
    obtain ⟨_, _, hl, _, _, _, l', hl', hr⟩ := hh
    split at hl'
    · next he =>
      by_cases hk : k = l
      · exact ⟨e, by simp, he, by omega⟩
      · obtain ⟨f, hf, g⟩ := eff_ex hr k h1 (by omega)
        exact ⟨f, by simp [hf], g⟩
    · obtain ⟨f, hf, g⟩ := eff_ex hr k h1 (by omega)
      exact ⟨f, by simp [hf], g⟩
theorem idx_uniq : ∀ {h : List Ent} {T : Tr Value} {H : Heap} {l : Nat}, HistOk P callF ops T0 H0 h T H l → ∀ e ∈ h, ∀ f ∈ h, e.i = f.i → e = f
  | [], _, _, _, _, e, he, _, _, _ => by simp at he
  | g :: h, T, H, l, hh, e, he, f, hf, hi => by
    obtain ⟨_, _, _, _, hne, _, l', _, hr⟩ := hh
    rcases List.mem_cons.1 he with rfl | he2 <;> rcases List.mem_cons.1 hf with rfl | hf2
    · rfl
    · exact absurd hi.symm (hne f hf2)
    · exact absurd hi (hne e he2)
    · exact idx_uniq hr e he2 f hf2 hi
theorem eff_uniq : ∀ {h : List Ent} {T : Tr Value} {H : Heap} {l : Nat}, HistOk P callF ops T0 H0 h T H l → ∀ e ∈ h, ∀ f ∈ h, isEff e.r = true → isEff f.r = true → e.l = f.l → e = f
  | [], _, _, _, _, e, he, _, _, _, _, _ => by simp at he
  | g :: h, T, H, l, hh, e, he, f, hf, h1, h2, hl => by
    obtain ⟨_, _, hll, _, _, _, l', hl', hr⟩ := hh
    rcases List.mem_cons.1 he with rfl | he2 <;> rcases List.mem_cons.1 hf with rfl | hf2
    · rfl
    · have := lev_le hr f hf2; rw [if_pos h1] at hl'; omega
    · have := lev_le hr e he2; rw [if_pos h2] at hl'; omega
    · exact eff_uniq hr e he2 f hf2 h1 h2 hl
theorem LvlOk.split : ∀ {l1 l2 : List Ent}, LvlOk M (l1 ++ l2) → LvlOk M l2
  | [], _, h => h
  | _ :: l1, _, h => LvlOk.split (l1 := l1) h.2.2
theorem AllChk.split : ∀ {l1 l2 : List Ent}, AllChk P ops M (l1 ++ l2) → AllChk P ops M l2
  | [], _, h => h
  | _ :: l1, _, h => AllChk.split (l1 := l1) h.2
structure Facts (H0 : Heap) (h : List Ent) (top : Heap) (l m : Nat) (A B : Heap) : Prop where
  tp : m = l → A = top
  fa : ∀ f ∈ h, isEff f.r = true → f.l = m + 1 → f.H = A
  fb : ∀ f ∈ h, isEff f.r = true → f.l = m → f.H' = B
  f0 : m = 0 → B = H0
  nxt : B.next ≤ A.next
  grow : ∀ φ w, Rel φ B w → Rel φ A w ∧ ∀ b, Own φ A b → Own φ B b
  made : ∀ e ∈ h, e.l = m → ∀ id ob, e.r = .made id ob → B.next ≤ id ∧ id < A.next
  dist : ∀ e ∈ h, ∀ e' ∈ h, e.l = m → e'.l = m → ∀ id ob ob', e.r = .made id ob → e'.r = .made id ob' → e.i = e'.i
theorem ent_grow {e : Ent} (he : EntOk P callF ops e) (hn : isEff e.r = false) : e.H.next ≤ e.H'.next ∧ (∀ φ w, Rel φ e.H w → Rel φ e.H' w ∧ ∀ b, Own φ e.H' b → Own φ e.H b) ∧ ∀ id ob, e.r = .made id ob → id = e.H.next ∧ e.H'.next = e.H.next + 1 := by
  obtain ⟨o, ho, h⟩ := he
  cases hr : e.r with
  | still => rw [hr] at h; obtain ⟨h, _⟩ := h; rw [h]; exact ⟨Nat.le_refl _, fun φ w hR => ⟨hR, fun b hb => hb⟩, fun id ob h => by cases h⟩
  | read => rw [hr] at h; obtain ⟨h, _⟩ := h; rw [h]; exact ⟨Nat.le_refl _, fun φ w hR => ⟨hR, fun b hb => hb⟩, fun id ob h => by cases h⟩
  | made id ob =>
    rw [hr] at h
    obtain ⟨_, h1, h2, _⟩ := h
    have hnx := Heap.add_next h2
    refine ⟨by omega, fun φ w hR => ?_, fun id' ob' h => by cases h; exact ⟨h1, hnx⟩⟩
    obtain ⟨g1, g2⟩ := hR.phantom h2
    refine ⟨g1, fun b hb => ?_⟩
    obtain ⟨j, p, C, k1, k2, k3⟩ := hb
    rw [Heap.add_get h2] at k1
    split at k1
    · next hj => subst hj; rw [g2] at k2; cases k2
    · exact ⟨j, p, C, k1, k2, k3⟩
  | eff => rw [hr] at hn; cases hn
theorem facts : ∀ {h : List Ent} {T : Tr Value} {H : Heap} {l : Nat}, HistOk P callF ops T0 H0 h T H l → ∀ m, m ≤ l → ∃ A B, Facts H0 h H l m A B
  | [], T, H, l, hh, m, hm => by
    obtain ⟨_, rfl, rfl⟩ := hh
    refine ⟨H, H, ⟨fun _ => rfl, by simp, by simp, fun _ => rfl, Nat.le_refl _, fun φ w hR => ⟨hR, fun b hb => hb⟩, by simp, by simp⟩⟩
  | e :: h, T, H, l, hh, m, hm => by
    have hh0 := hh
    obtain ⟨_, hH, hl, hent, hne, _, l', hl', hr⟩ := hh
    cases hE : isEff e.r with
    | false =>
      rw [hE] at hl'
      simp only [Bool.false_eq_true, if_false] at hl'
      obtain ⟨g1, g2, g3⟩ := ent_grow hent hE
      obtain ⟨A, B, F⟩ := facts hr m (by omega)
      by_cases hml : m = l'
      · have hA := F.tp hml
        refine ⟨e.H', B, ⟨fun _ => hH.symm, fun f hf hfe hfl => ?_, fun f hf hfe hfl => ?_, F.f0, ?_, fun φ w hR => ?_, fun f hf hfl id ob hr' => ?_, fun f hf f' hf' hfl hfl' id ob ob' hr1 hr2 => ?_⟩⟩
        · rcases List.mem_cons.1 hf with rfl | hf
          · rw [hE] at hfe; cases hfe
          · have := lev_le hr f hf; omega
        · rcases List.mem_cons.1 hf with rfl | hf
          · rw [hE] at hfe; cases hfe
          · exact F.fb f hf hfe hfl
        · have := F.nxt; rw [hA] at this; omega
        · obtain ⟨k1, k2⟩ := F.grow φ w hR
          rw [hA] at k1 k2
          obtain ⟨k3, k4⟩ := g2 φ w k1
          exact ⟨k3, fun b hb => k2 b (k4 b hb)⟩
        · have hn := F.nxt
          rw [hA] at hn
          rcases List.mem_cons.1 hf with rfl | hf
          · obtain ⟨q1, q2⟩ := g3 id ob hr'; omega
          · have := F.made f hf hfl id ob hr'; rw [hA] at this; omega
        · rcases List.mem_cons.1 hf with rfl | hf2 <;> rcases List.mem_cons.1 hf' with rfl | hf2'
          · rfl
          · have := (F.made f' hf2' hfl' id ob' hr2).2
            rw [hA] at this
            have := (g3 id ob hr1).1; omega
          · have := (F.made f hf2 hfl id ob hr1).2
            rw [hA] at this
            have := (g3 id ob' hr2).1; omega
          · exact F.dist f hf2 f' hf2' hfl hfl' id ob ob' hr1 hr2
      · refine ⟨A, B, ⟨fun h => by omega, fun f hf hfe hfl => ?_, fun f hf hfe hfl => ?_, F.f0, F.nxt, F.grow, fun f hf hfl id ob hr' => ?_, fun f hf f' hf' hfl hfl' id ob ob' hr1 hr2 => ?_⟩⟩
        · rcases List.mem_cons.1 hf with rfl | hf
          · rw [hE] at hfe; cases hfe
          · exact F.fa f hf hfe hfl
        · rcases List.mem_cons.1 hf with rfl | hf
          · rw [hE] at hfe; cases hfe
          · exact F.fb f hf hfe hfl
        · rcases List.mem_cons.1 hf with rfl | hf
          · omega
          · exact F.made f hf hfl id ob hr'
        · rcases List.mem_cons.1 hf with rfl | hf
          · omega
          · rcases List.mem_cons.1 hf' with rfl | hf'
            · omega
            · exact F.dist f hf f' hf' hfl hfl' id ob ob' hr1 hr2
    | true =>
      rw [hE] at hl'
      simp only [if_true] at hl'
      have hnm : ∀ id ob, e.r ≠ .made id ob := fun id ob h => by rw [h] at hE; cases hE
      by_cases hml : m = l
      · refine ⟨e.H', e.H', ⟨fun _ => hH.symm, fun f hf hfe hfl => ?_, fun f hf hfe hfl => ?_, fun h => by omega, Nat.le_refl _, fun φ w hR => ⟨hR, fun b hb => hb⟩, fun f hf hfl id ob hr' => ?_, fun f hf f' hf' hfl hfl' id ob ob' hr1 hr2 => ?_⟩⟩
        · have := lev_le hh0 f hf; omega
        · rcases List.mem_cons.1 hf with rfl | hf
          · rfl
          · have := lev_le hr f hf; omega
        · rcases List.mem_cons.1 hf with rfl | hf
          · exact absurd hr' (hnm id ob)
          · have := lev_le hr f hf; omega
        · rcases List.mem_cons.1 hf with rfl | hf
          · exact absurd hr1 (hnm id ob)
          · have := lev_le hr f hf; omega
      · obtain ⟨A, B, F⟩ := facts hr m (by omega)
        refine ⟨A, B, ⟨fun h => absurd h hml, fun f hf hfe hfl => ?_, fun f hf hfe hfl => ?_, F.f0, F.nxt, F.grow, fun f hf hfl id ob hr' => ?_, fun f hf f' hf' hfl hfl' id ob ob' hr1 hr2 => ?_⟩⟩
        · rcases List.mem_cons.1 hf with rfl | hf
          · exact (F.tp (by omega)).symm
          · exact F.fa f hf hfe hfl
        · rcases List.mem_cons.1 hf with rfl | hf
          · omega
          · exact F.fb f hf hfe hfl
        · rcases List.mem_cons.1 hf with rfl | hf
          · exact absurd hr' (hnm id ob)
          · exact F.made f hf hfl id ob hr'
        · rcases List.mem_cons.1 hf with rfl | hf
          · exact absurd hr1 (hnm id ob)
          · rcases List.mem_cons.1 hf' with rfl | hf'
            · exact absurd hr2 (hnm id ob')
            · exact F.dist f hf f' hf' hfl hfl' id ob ob' hr1 hr2
theorem chk_all {s : PS} {A B : Nat → Heap} (hF : Final P callF ops T0 H0 M s) (hc : ChkAt P ops M s.hist s.H s.l) (hAB : ∀ m, m ≤ s.l → Facts H0 s.hist s.H s.l m (A m) (B m)) (m : Nat) (hm : m ≤ s.l) (e : Ent) (he : e ∈ s.hist) (hn : isEff e.r = false) (hle : e.l ≤ m)
    (hcond : e.l = m ∨ ∀ f : Ent, f ∈ s.hist → isEff f.r = true → f.l = m → dep' M f.i e.i = false) : RecOk P ops e (A m) := by
  by_cases hml : m = s.l
  · rw [(hAB m hm).tp hml]
    subst hml
    exact hc e he hn hcond
  · obtain ⟨g, hg, hge, hgl⟩ := eff_ex hF.ok (m + 1) (by omega) (by omega)
    rw [← (hAB m hm).fa g hg hge hgl]
    obtain ⟨l1, l2, hsp⟩ := List.append_of_mem hg
    have hok := hF.ok
    unfold PS.Ok at hok
    rw [hsp] at hok
    obtain ⟨_, hlow⟩ := hist_split hok
    have hchk := hF.chk
    rw [hsp] at hchk
    have := (AllChk.split hchk).1 hge m hgl
    refine this e ?_ hn ?_
    · rw [hsp] at he
      rcases List.mem_append.1 he with he | he
      · have := (hlow e he).1; omega
      · rcases List.mem_cons.1 he with rfl | he
        · rw [hn] at hge; cases hge
        · exact he
    · rcases hcond with h | h
      · exact .inl h
      · exact .inr fun f hf => h f (by rw [hsp]; simp [hf])
theorem open_before {s : PS} (hF : Final P callF ops T0 H0 M s) {e : Ent} (he : e ∈ s.hist) (k : Nat) (hk : 1 ≤ k) (hek : if isEff e.r then k + 1 = e.l else k = e.l) : ∃ f ∈ s.hist, isEff f.r = true ∧ f.l = k ∧ dep' M e.i f.i = true := by
  obtain ⟨l1, l2, hsp⟩ := List.append_of_mem he
  have hok := hF.ok
  unfold PS.Ok at hok
  rw [hsp] at hok
  obtain ⟨⟨T', H', l'', hh⟩, _⟩ := hist_split hok
  obtain ⟨_, _, _, _, _, _, l', hl', hr⟩ := hh
  have hlv := hF.lvl
  rw [hsp] at hlv
  have hlv := LvlOk.split hlv
  cases hE : isEff e.r with
  | true =>
    rw [hE] at hek hl'
    simp only [if_true] at hek hl'
    obtain ⟨f, hf, h1, h2⟩ := eff_ex hr k hk (by omega)
    exact ⟨f, by rw [hsp]; simp [hf], h1, h2, hlv.2.1 hE f hf h1 (by omega)⟩
  | false =>
    rw [hE] at hek hl'
    simp only [Bool.false_eq_true, if_false] at hek hl'
    obtain ⟨f, hf, h1, h2⟩ := eff_ex hr k hk (by omega)
    exact ⟨f, by rw [hsp]; simp [hf], h1, h2, hlv.1 hE f hf h1 (by omega)⟩
end
end Ev
end Go.Proofs.YtifoekadjnlhcaaGreatDoor
