/- THE ENGINE, 27 a: plans, in fewer steps for the kernel. -/
import Derived.Test.YtepdkcikkemieaaGreatEvZ
noncomputable section
namespace Go.Proofs.YtepdkcikkemieaaGreat
open Go.RowKit
set_option linter.unusedVariables false
set_option linter.unusedSimpArgs false
namespace Ev
abbrev PuR := Program → Tr Value → Option Value
def andV (o : Option Value) (k : Value → Option Value) : Option Value := @Option.rec Value (fun _ => Option Value) none k o
def pMove (x : Operand) : PuR := fun _ T => opvK x T
def pBin (op : BinOp) (t : TypeId) (x y : Operand) (_ : TypeId) : PuR := fun P T => andV (opvK x T) fun a => andV (opvK y T) fun b => binK P op t x y a b
def pUn (op : UnOp) (_ : TypeId) (x : Operand) : PuR := fun _ T => andV (opvK x T) fun a => unK op a
def pField (s : TypeId) (x : Operand) (f : Nat) : PuR := fun P T => andV (opvK x T) fun v => fieldF P s v f
def pIndex (t : TypeId) (x i : Operand) : PuR := fun P T => andV (opvK x T) fun v => andV (opvK i T) fun j => indexK P t v j
def pExtract (x : Operand) (i : Nat) : PuR := fun _ T => andV (opvK x T) fun v => extractV v i
def pPick (c a b : Operand) : PuR := fun _ T => andV (opvK c T) fun v => pickK a b T v
def pNil (x : Operand) : PuR := fun _ T => andV (opvK x T) nilK
def pureD : Op → PuR :=
  @Op.rec (fun _ => PuR)
    pMove
    pMove
    pPick
    (fun _ _ _ => none)
    (fun _ _ _ _ => none)
    (fun x0 x1 P T => evP P (fun x => opvK x T) (.build x0 x1))
    (fun _ _ _ _ _ => none)
    (fun _ _ _ _ _ _ => none)
    (fun _ _ _ _ => none)
    (fun _ _ _ _ _ => none)
    (fun _ _ _ => none)
    (fun _ _ _ => none)
    pNil
    pBin
    pUn
    (fun x0 x1 x2 P T => evP P (fun x => opvK x T) (.convert x0 x1 x2))
    (fun x0 x1 P T => evP P (fun x => opvK x T) (.sliceToArrayPointer x0 x1))
    (fun x0 x1 P T => evP P (fun x => opvK x T) (.makeInterface x0 x1))
    (fun x0 x1 x2 P T => evP P (fun x => opvK x T) (.makeFunc x0 x1 x2))
    (fun _ _ _ _ => none)
    (fun _ _ _ _ => none)
    (fun _ _ _ _ _ => none)
    (fun x0 x1 x2 x3 x4 P T => evP P (fun x => opvK x T) (.slice x0 x1 x2 x3 x4))
    pField
    (fun x0 x1 x2 P T => evP P (fun x => opvK x T) (.field x0 x1 x2))
    pIndex
    (fun x0 x1 x2 P T => evP P (fun x => opvK x T) (.index x0 x1 x2))
    (fun _ _ _ _ _ _ => none)
    (fun _ _ _ _ _ _ => none)
    (fun _ _ _ _ _ => none)
    (fun _ _ _ _ _ _ => none)
    (fun _ _ _ _ => none)
    (fun _ _ _ _ => none)
    (fun _ _ _ => none)
    (fun _ _ _ _ _ _ => none)
    pExtract
    (fun x0 P T => evP P (fun x => opvK x T) (.call x0))
    (fun _ _ _ => none)
    (fun _ _ _ => none)
    (fun _ _ _ => none)
    (fun _ _ _ _ => none)
    (fun _ _ _ _ _ => none)
    (fun _ _ _ _ => none)
def readD : Op → Program → Tr Value → Heap → Option Value :=
  @Op.rec (fun _ => Program → Tr Value → Heap → Option Value)
    (fun _ _ _ _ => none)
    (fun _ _ _ _ => none)
    (fun _ _ _ _ _ _ => none)
    (fun _ _ _ _ => none)
    (fun _ _ _ _ _ => none)
    (fun _ _ _ _ _ => none)
    (fun _ _ _ _ _ _ => none)
    (fun _ _ _ _ _ _ _ => none)
    (fun t a P T H => @Option.rec Value (fun _ => Option Value) none (fun v => loadF P H t v) (opvK a T))
    (fun _ _ _ _ _ _ => none)
    (fun _ _ _ _ => none)
    (fun _ _ _ _ => none)
    (fun _ _ _ _ => none)
    (fun _ _ _ _ _ _ _ _ => none)
    (fun _ _ _ _ _ _ => none)
    (fun x0 x1 x2 P T H => evRd P (fun x => opvK x T) H (.convert x0 x1 x2))
    (fun _ _ _ _ _ => none)
    (fun _ _ _ _ _ => none)
    (fun _ _ _ _ _ _ => none)
    (fun _ _ _ _ _ => none)
    (fun _ _ _ _ _ => none)
    (fun _ _ _ _ _ _ => none)
    (fun _ _ _ _ _ _ _ _ => none)
    (fun _ _ _ _ _ _ => none)
    (fun _ _ _ _ _ _ => none)
    (fun _ _ _ _ _ _ => none)
    (fun _ _ _ _ _ _ => none)
    (fun x0 x1 x2 x3 P T H => evRd P (fun x => opvK x T) H (.lookup x0 x1 x2 x3))
    (fun _ _ _ _ _ _ _ => none)
    (fun _ _ _ _ _ _ => none)
    (fun _ _ _ _ _ _ _ => none)
    (fun _ _ _ _ _ => none)
    (fun _ _ _ _ _ => none)
    (fun x0 P T H => evRd P (fun x => opvK x T) H (.entry x0))
    (fun _ _ _ _ _ _ _ => none)
    (fun _ _ _ _ _ => none)
    (fun x0 P T H => evRd P (fun x => opvK x T) H (.call x0))
    (fun _ _ _ _ => none)
    (fun _ _ _ _ => none)
    (fun _ _ _ _ => none)
    (fun _ _ _ _ _ => none)
    (fun _ _ _ _ _ _ => none)
    (fun _ _ _ _ _ => none)
def newD : Op → Program → Tr Value → Option (AObj × Mk) :=
  @Op.rec (fun _ => Program → Tr Value → Option (AObj × Mk))
    (fun _ _ _ => none)
    (fun _ _ _ => none)
    (fun _ _ _ _ _ => none)
    (fun x0 P T => evN P (fun x => opvK x T) (.alloc x0))
    (fun x0 x1 P T => evN P (fun x => opvK x T) (.box x0 x1))
    (fun _ _ _ _ => none)
    (fun x0 x1 x2 P T => evN P (fun x => opvK x T) (.buildSlice x0 x1 x2))
    (fun _ _ _ _ _ _ => none)
    (fun _ _ _ _ => none)
    (fun _ _ _ _ _ => none)
    (fun _ _ _ => none)
    (fun _ _ _ => none)
    (fun _ _ _ => none)
    (fun _ _ _ _ _ _ _ => none)
    (fun _ _ _ _ _ => none)
    (fun x0 x1 x2 P T => evN P (fun x => opvK x T) (.convert x0 x1 x2))
    (fun _ _ _ _ => none)
    (fun _ _ _ _ => none)
    (fun _ _ _ _ _ => none)
    (fun x0 x1 P T => evN P (fun x => opvK x T) (.makeMap x0 x1))
    (fun _ _ _ _ => none)
    (fun x0 x1 x2 P T => evN P (fun x => opvK x T) (.makeSlice x0 x1 x2))
    (fun _ _ _ _ _ _ _ => none)
    (fun _ _ _ _ _ => none)
    (fun _ _ _ _ _ => none)
    (fun _ _ _ _ _ => none)
    (fun _ _ _ _ _ => none)
    (fun _ _ _ _ _ _ => none)
    (fun _ _ _ _ _ _ => none)
    (fun _ _ _ _ _ => none)
    (fun _ _ _ _ _ _ => none)
    (fun _ _ _ _ => none)
    (fun _ _ _ _ => none)
    (fun _ _ _ => none)
    (fun _ _ _ _ _ _ => none)
    (fun _ _ _ _ => none)
    (fun _ _ _ => none)
    (fun _ _ _ => none)
    (fun _ _ _ => none)
    (fun _ _ _ => none)
    (fun _ _ _ _ => none)
    (fun _ _ _ _ _ => none)
    (fun _ _ _ _ => none)
theorem pureD_eq (op : Op) (P : Program) (T : Tr Value) : pureD op P T = evP P (opV T) op := by
  have hρ : (fun x => opvK x T) = opV T := funext fun x => opvK_eq x T
  cases op
  case move x => exact opvK_eq x T
  case assign x => exact opvK_eq x T
  case binOp op t x y u =>
    show andV (opvK x T) _ = _
    rw [opvK_eq]; simp only [evP]
    cases opV T x with
    | none => rfl
    | some a =>
      show andV (opvK y T) _ = _
      rw [opvK_eq]
      cases opV T y with
      | none => rfl
      | some b => exact binK_eq P op t x y a b
  case unOp op t x =>
    show andV (opvK x T) _ = _
    rw [opvK_eq]; simp only [evP]
    cases opV T x with
    | none => rfl
    | some a => exact unK_eq op a
  case fieldAddr s x f => show andV (opvK x T) _ = _; rw [opvK_eq]; simp only [evP]; cases opV T x with
    | none => rfl
    | some v => exact fieldF_eq P s v f
  case indexAddr t x i => show andV (opvK x T) _ = _; rw [opvK_eq]; simp only [evP]; cases opV T x with
    | none => rfl
    | some v => show andV (opvK i T) _ = _; rw [opvK_eq]; cases opV T i with
      | none => rfl
      | some j => exact indexK_eq P t v j
  case extract x i => show andV (opvK x T) _ = _; rw [opvK_eq]; simp only [evP]; cases opV T x <;> rfl
  case pick c x y => show andV (opvK c T) _ = _; rw [opvK_eq]; simp only [evP]; cases opV T c with
    | none => rfl
    | some v =>
      show pickK x y T v = _
      cases v <;> try rfl
      next b => cases b with
        | true => exact opvK_eq x T
        | false => exact opvK_eq y T
  case nilCheck x => show andV (opvK x T) _ = _; rw [opvK_eq]; simp only [evP]; cases opV T x with
    | none => rfl
    | some v =>
      show nilK v = _
      cases v <;> try rfl
      next p => cases p <;> rfl
      next f p q => cases f <;> rfl
  all_goals first | rfl | (rw [← hρ]; rfl)
theorem readD_eq (op : Op) (P : Program) (T : Tr Value) (H : Heap) : readD op P T H = evRd P (opV T) H op := by
  have hρ : (fun x => opvK x T) = opV T := funext fun x => opvK_eq x T
  cases op
  case load t a =>
    show (@Option.rec Value (fun _ => Option Value) none (fun v => loadF P H t v) (opvK a T)) = _
    rw [opvK_eq]; simp only [evRd, evR]
    cases opV T a with
    | none => rfl
    | some v => exact loadF_eq P H t v
  all_goals first | rfl | (rw [← hρ]; rfl)
theorem newD_eq (op : Op) (P : Program) (T : Tr Value) : newD op P T = evN P (opV T) op := by
  have hρ : (fun x => opvK x T) = opV T := funext fun x => opvK_eq x T
  cases op <;> first | rfl | (rw [← hρ]; rfl)
/-! Equality at once, of numbers, truth values, addresses, rows. -/
def andB (a b : Bool) : Bool := @Bool.rec (fun _ => Bool) false b a
theorem andB_t {a b : Bool} (h : andB a b = true) : a = true ∧ b = true := by
  cases a with
  | false => cases h
  | true => exact ⟨rfl, h⟩
def noSpot (o : Option Nat) : Bool := @Option.rec Nat (fun _ => Bool) true (fun _ => false) o
def eqA (x y : Addr) : Bool := andB (Nat.beq x.block y.block) (andB (Nat.beq x.off y.off) (andB (noSpot x.spot) (noSpot y.spot)))
theorem eqA_t {x y : Addr} (h : eqA x y = true) : x = y := by
  obtain ⟨h1, h⟩ := andB_t h
  obtain ⟨h2, h⟩ := andB_t h
  obtain ⟨h3, h4⟩ := andB_t h
  obtain ⟨a, b, c⟩ := x; obtain ⟨d, e, f⟩ := y
  have g1 : a = d := Nat.eq_of_beq_eq_true h1
  have g2 : b = e := Nat.eq_of_beq_eq_true h2
  subst g1; subst g2
  cases c with
  | some c => cases h3
  | none => cases f with
    | some f => cases h4
    | none => rfl
def eqAO (x y : Option Addr) : Bool := @Option.rec Addr (fun _ => Bool) (@Option.rec Addr (fun _ => Bool) true (fun _ => false) y) (fun x => @Option.rec Addr (fun _ => Bool) false (fun y => eqA x y) y) x
theorem eqAO_t {x y : Option Addr} (h : eqAO x y = true) : x = y := by
  cases x with
  | none => cases y with
    | none => rfl
    | some y => cases h
  | some x => cases y with
    | none => cases h
    | some y => rw [eqA_t (show eqA x y = true from h)]
def isInt : Value → IntKind → Nat → Bool := @Value.rec (fun _ => IntKind → Nat → Bool) (fun _ => Unit) (fun _ => Unit) (fun _ => fun _ _ => false) (fun d n k m => @Int.rec (fun _ => Bool) (fun j => andB (Nat.beq (numK d) (numK k)) (Nat.beq j m)) (fun _ => false) n) (fun _ _ => fun _ _ => false) (fun _ _ _ => fun _ _ => false) (fun _ => fun _ _ => false) (fun _ => fun _ _ => false) (fun _ _ _ => fun _ _ => false) (fun _ => fun _ _ => false) (fun _ => fun _ _ => false) (fun _ _ _ _ _ => fun _ _ => false) (fun _ _ => false) (fun _ _ _ => fun _ _ => false) (fun _ _ => false) (fun _ _ => fun _ _ => false) (fun _ _ => fun _ _ => false) (fun _ _ => ()) () (fun _ _ _ _ => ())
def isBool : Value → Bool → Bool := @Value.rec (fun _ => Bool → Bool) (fun _ => Unit) (fun _ => Unit) (fun b c => @Bool.rec (fun _ => Bool) (@Bool.rec (fun _ => Bool) true false c) c b) (fun _ _ => fun _ => false) (fun _ _ => fun _ => false) (fun _ _ _ => fun _ => false) (fun _ => fun _ => false) (fun _ => fun _ => false) (fun _ _ _ => fun _ => false) (fun _ => fun _ => false) (fun _ => fun _ => false) (fun _ _ _ _ _ => fun _ => false) (fun _ => false) (fun _ _ _ => fun _ => false) (fun _ => false) (fun _ _ => fun _ => false) (fun _ _ => fun _ => false) (fun _ _ => ()) () (fun _ _ _ _ => ())
def isPtr : Value → Option Addr → Bool := @Value.rec (fun _ => Option Addr → Bool) (fun _ => Unit) (fun _ => Unit) (fun _ => fun _ => false) (fun _ _ => fun _ => false) (fun _ _ => fun _ => false) (fun _ _ _ => fun _ => false) (fun _ => fun _ => false) (fun a b => eqAO a b) (fun _ _ _ => fun _ => false) (fun _ => fun _ => false) (fun _ => fun _ => false) (fun _ _ _ _ _ => fun _ => false) (fun _ => false) (fun _ _ _ => fun _ => false) (fun _ => false) (fun _ _ => fun _ => false) (fun _ _ => fun _ => false) (fun _ _ => ()) () (fun _ _ _ _ => ())
def isSlc : Value → Option Addr → Nat → Nat → Bool := @Value.rec (fun _ => Option Addr → Nat → Nat → Bool) (fun _ => Unit) (fun _ => Unit) (fun _ => fun _ _ _ => false) (fun _ _ => fun _ _ _ => false) (fun _ _ => fun _ _ _ => false) (fun _ _ _ => fun _ _ _ => false) (fun _ => fun _ _ _ => false) (fun _ => fun _ _ _ => false) (fun a n c b m d => andB (eqAO a b) (andB (Nat.beq n m) (Nat.beq c d))) (fun _ => fun _ _ _ => false) (fun _ => fun _ _ _ => false) (fun _ _ _ _ _ => fun _ _ _ => false) (fun _ _ _ => false) (fun _ _ _ => fun _ _ _ => false) (fun _ _ _ => false) (fun _ _ => fun _ _ _ => false) (fun _ _ => fun _ _ _ => false) (fun _ _ => ()) () (fun _ _ _ _ => ())
def quickD : Value → Value → Bool := @Value.rec (fun _ => Value → Bool) (fun _ => Unit) (fun _ => Unit) (fun c b => isBool b c) (fun d n b => @Int.rec (fun _ => Bool) (fun j => isInt b d j) (fun _ => false) n) (fun _ _ => fun _ => false) (fun _ _ _ => fun _ => false) (fun _ => fun _ => false) (fun a b => isPtr b a) (fun a n c b => isSlc b a n c) (fun _ => fun _ => false) (fun _ => fun _ => false) (fun _ _ _ _ _ => fun _ => false) (fun _ => false) (fun _ _ _ => fun _ => false) (fun _ => false) (fun _ _ => fun _ => false) (fun _ _ => fun _ => false) (fun _ _ => ()) () (fun _ _ _ _ => ())
theorem quickD_t {a b : Value} (h : quickD a b = true) : a = b := by
  cases a <;> try (exact absurd h (by show ¬ false = true; simp))
  next c =>
    cases b <;> try (exact absurd h (by show ¬ false = true; simp))
    next d => cases c <;> cases d <;> first | rfl | cases h
  next d n =>
    cases n with
    | negSucc n => cases h
    | ofNat j =>
      cases b <;> try (exact absurd h (by show ¬ false = true; simp))
      next e m => cases m with
        | negSucc m => cases h
        | ofNat m =>
          obtain ⟨h1, h2⟩ := andB_t (show andB (Nat.beq (numK e) (numK d)) (Nat.beq m j) = true from h)
          rw [numK_inj h1, Nat.eq_of_beq_eq_true h2]
  next p =>
    cases b <;> try (exact absurd h (by show ¬ false = true; simp))
    next q => rw [eqAO_t (show eqAO q p = true from h)]
  next p n c =>
    cases b <;> try (exact absurd h (by show ¬ false = true; simp))
    next q m d =>
      obtain ⟨h1, h⟩ := andB_t (show andB (eqAO q p) (andB (Nat.beq m n) (Nat.beq d c)) = true from h)
      obtain ⟨h2, h3⟩ := andB_t h
      rw [eqAO_t h1, Nat.eq_of_beq_eq_true h2, Nat.eq_of_beq_eq_true h3]
theorem quickD_self {a : Value} (h : quickD a a = true) : beqV a a = true := by
  cases a <;> first | (exact absurd h (by show ¬ false = true; simp)) | simp [beqV]
def beqF (a b : Value) : Bool := @Bool.rec (fun _ => Bool) (beqV a b) true (quickD a b)
theorem beqF_eq (a b : Value) : beqF a b = beqV a b := by
  unfold beqF
  cases h : quickD a b with
  | false => rfl
  | true => have e := quickD_t h; subst e; exact (quickD_self h).symm
def beqCF (a : List (Option Value)) : List (Option Value) → Bool :=
  @List.rec (Option Value) (fun _ => List (Option Value) → Bool) (fun b => @List.rec (Option Value) (fun _ => Bool) true (fun _ _ _ => false) b)
    (fun x _ ih b => @List.rec (Option Value) (fun _ => Bool) false (fun y m _ => @Option.rec Value (fun _ => Bool) (@Option.rec Value (fun _ => Bool) (ih m) (fun _ => false) y) (fun x => @Option.rec Value (fun _ => Bool) false (fun y => andB (beqF x y) (ih m)) y) x) b) a
theorem andB_eq (a b : Bool) : andB a b = (a && b) := by cases a <;> rfl
theorem beqCF_eq : ∀ (a b : List (Option Value)), beqCF a b = beqC a b
  | [], [] => rfl
  | [], _ :: _ => rfl
  | none :: _, [] => rfl
  | some _ :: _, [] => rfl
  | none :: l, none :: m => by rw [beqC]; exact beqCF_eq l m
  | none :: l, some _ :: m => rfl
  | some _ :: l, none :: m => rfl
  | some a :: l, some b :: m => by
    rw [beqC]
    show andB (beqF a b) (beqCF l m) = _
    rw [andB_eq, beqF_eq, beqCF_eq l m]
def beqOF (a b : AObj) : Bool := match a, b with
  | .cells l o m, .cells l' o' m' => andB (beqCF l l') (o == o' && m == m')
  | a, b => beqO a b
theorem beqOF_eq (a b : AObj) : beqOF a b = beqO a b := by
  unfold beqOF
  split
  · rw [beqCF_eq, andB_eq]; exact (Bool.and_assoc _ _ _).symm
  · rfl
def didF (nt : Nat) (s : PS) (o : Oper) (i : Nat) (r : Res) (l : Nat) (H' : Heap) (v : Value) : Option PS :=
  @Option.rec Tmp (fun _ => Option PS) (some ⟨s.T, H', ⟨i, s.T, v, r, l, s.H, H'⟩ :: s.hist, l⟩) (fun d => @Bool.rec (fun _ => Option PS) none (@Option.rec (Tr Value) (fun _ => Option PS) none (fun T' => some ⟨T', H', ⟨i, s.T, v, r, l, s.H, H'⟩ :: s.hist, l⟩) (Tr.set 40 s.T d (some v))) (Nat.blt d nt)) o.dst
theorem didF_eq (nt : Nat) (s : PS) (o : Oper) (i : Nat) (r : Res) (l : Nat) (H' : Heap) (v : Value) : didF nt s o i r l H' v = s.did nt o i v r l H' := by
  unfold didF PS.did putT
  cases o.dst with
  | none => rfl
  | some d =>
    simp only []
    by_cases h : d < nt
    · rw [if_pos h, show Nat.blt d nt = true from by simpa [Nat.blt_eq] using h]
      cases Tr.set 40 s.T d (some v) <;> rfl
    · rw [if_neg h, show Nat.blt d nt = false from by cases hb : Nat.blt d nt with | false => rfl | true => exact absurd (by simpa [Nat.blt_eq] using hb) h]
def forceP : Value → (Value → Option PS) → Option PS :=
  @Value.rec (fun _ => (Value → Option PS) → Option PS) (fun _ => Unit) (fun _ => Unit) (fun b k => @Bool.rec (fun _ => Option PS) (k (.bool false)) (k (.bool true)) b) (fun d n k => @Int.rec (fun _ => Option PS) (fun m => @Nat.rec (fun _ => Option PS) (k (.int d (.ofNat 0))) (fun m _ => k (.int d (.ofNat (Nat.succ m)))) m) (fun m => @Nat.rec (fun _ => Option PS) (k (.int d (.negSucc 0))) (fun m _ => k (.int d (.negSucc (Nat.succ m)))) m) n) (fun d n k => k (.float d n)) (fun d n m k => k (.complex d n m)) (fun s k => k (.string s)) (fun a k => k (.pointer a)) (fun a n c k => k (.slice a n c)) (fun r k => k (.map r)) (fun r k => k (.chan r)) (fun f p q _ _ k => k (.func f p q)) (fun k => k .nilFunc) (fun t v _ k => k (.iface t v)) (fun k => k .nilIface) (fun c _ k => k (.agg c)) (fun c _ k => k (.tuple c)) (fun _ _ => ()) () (fun _ _ _ _ => ())
theorem forceP_eq (v : Value) (k : Value → Option PS) : forceP v k = k v := by
  cases v with
  | int d n => cases n with
    | ofNat m => cases m <;> rfl
    | negSucc m => cases m <;> rfl
  | bool b => cases b <;> rfl
  | _ => rfl
def didK (nt : Nat) (s : PS) (o : Oper) (i : Nat) (v : Value) (r : Res) (l : Nat) (H' : Heap) : Option PS := forceP v (didF nt s o i r l H')
def newK (nt : Nat) (s : PS) (o : Oper) (i : Nat) (p : AObj × Mk) : Option PS := @Option.rec Heap (fun _ => Option PS) none (fun H' => didF nt s o i (.made s.H.next p.1) s.l H' (p.2.val s.H.next)) (s.H.add p.1)
def doN (P : Program) (nt : Nat) (s : PS) (i : Nat) (o : Oper) : Option PS :=
  @Option.rec Value (fun _ => Option PS)
    (@Option.rec Value (fun _ => Option PS)
      (@Option.rec (AObj × Mk) (fun _ => Option PS) none (newK nt s o i) (newD o.op P s.T))
      (fun v => didK nt s o i v .read s.l s.H) (readD o.op P s.T s.H))
    (fun v => didK nt s o i v .still s.l s.H) (pureD o.op P s.T)
def stepNK (P : Program) (nt : Nat) (ops : Array Oper) (s : PS) (i : Nat) : Option PS :=
  @Option.rec Oper (fun _ => Option PS) none (fun o => @Option.rec (Nat × Bool) (fun _ => Option PS) (doN P nt s i o) (fun _ => stepN P nt ops s i) o.guard) (nthK ops.toList i)
theorem stepNK_eq (P : Program) (nt : Nat) (ops : Array Oper) (s : PS) (i : Nat) : stepNK P nt ops s i = stepN P nt ops s i := by
  unfold stepNK
  rw [nthK_eq]
  cases ho : ops.toList[i]? with
  | none => unfold stepN; rw [ho]
  | some o =>
    show (@Option.rec (Nat × Bool) (fun _ => Option PS) (doN P nt s i o) (fun _ => stepN P nt ops s i) o.guard) = _
    cases hg : o.guard with
    | some g => rfl
    | none =>
      show doN P nt s i o = _
      unfold stepN doN
      rw [ho, pureD_eq, readD_eq, newD_eq]
      simp only [hg, wantedV]
      cases evP P (opV s.T) o.op with
      | some v => exact (forceP_eq v _).trans (didF_eq ..)
      | none =>
        cases evRd P (opV s.T) s.H o.op with
        | some v => exact (forceP_eq v _).trans (didF_eq ..)
        | none =>
          cases evN P (opV s.T) o.op with
          | none => rfl
          | some p =>
            obtain ⟨ob, m⟩ := p
            show newK nt s o i (ob, m) = _
            unfold newK
            simp only []
            cases s.H.add ob with
            | none => rfl
            | some H' => exact didF_eq ..
def findK (i : Nat) (h : List Ent) : Option Ent := @List.rec Ent (fun _ => Option Ent) none (fun e _ ih => @Bool.rec (fun _ => Option Ent) ih (some e) (Nat.beq e.i i)) h
theorem findK_eq (i : Nat) : ∀ h : List Ent, findK i h = h.find? (fun e => e.i == i)
  | [] => rfl
  | e :: h => by
    show (@Bool.rec (fun _ => Option Ent) (findK i h) (some e) (Nat.beq e.i i)) = _
    rw [findK_eq i h, List.find?_cons]
    have : (e.i == i) = Nat.beq e.i i := by rw [Bool.eq_iff_iff, beq_iff_eq, Nat.beq_eq]
    rw [this]
    cases Nat.beq e.i i <;> rfl
def recK (P : Program) (s : PS) (o : Oper) (e : Ent) : Res → Bool :=
  @Res.rec (fun _ => Bool) true (@Option.rec Value (fun _ => Bool) false (fun u => beqF u e.v) (readD o.op P e.T s.H)) (fun id ob => @Option.rec AObj (fun _ => Bool) false (fun ob' => beqOF ob' ob) (s.H.get id)) true
def recheckK (P : Program) (ops : Array Oper) (s : PS) (i : Nat) : Bool :=
  @Option.rec Ent (fun _ => Bool) false (fun e => @Option.rec Oper (fun _ => Bool) false (fun o => recK P s o e e.r) (nthK ops.toList i)) (findK i s.hist)
theorem recheckK_eq (P : Program) (ops : Array Oper) (s : PS) (i : Nat) : recheckK P ops s i = recheck P ops s i := by
  unfold recheckK recheck
  rw [findK_eq, nthK_eq]
  cases s.hist.find? (fun e => e.i == i) with
  | none => rfl
  | some e =>
    cases ops.toList[i]? with
    | none => rfl
    | some o =>
      show recK P s o e e.r = _
      simp only []
      cases e.r with
      | still => rfl
      | eff => rfl
      | read =>
        show (@Option.rec Value (fun _ => Bool) false (fun u => beqF u e.v) (readD o.op P e.T s.H)) = _
        rw [readD_eq]
        simp only []
        cases evRd P (opV e.T) s.H o.op with
        | none => rfl
        | some u => exact beqF_eq u e.v
      | made id ob =>
        show (@Option.rec AObj (fun _ => Bool) false (fun ob' => beqOF ob' ob) (s.H.get id)) = _
        simp only []
        cases s.H.get id with
        | none => rfl
        | some ob' => exact beqOF_eq ob' ob
def effK (nt : Nat) (s : PS) (o : Oper) (i : Nat) (p : Value × Heap) : Option PS := didK nt s o i p.1 .eff (Nat.succ s.l) p.2
def stepEK (P : Program) (C : Caller) (nt : Nat) (ops : Array Oper) (s : PS) (i : Nat) : Option PS :=
  @Option.rec Oper (fun _ => Option PS) none (fun o => @Option.rec (Nat × Bool) (fun _ => Option PS) (@Option.rec (Value × Heap) (fun _ => Option PS) none (effK nt s o i) (opK P C s.T s.H o.op)) (fun _ => stepE P C nt ops s i) o.guard) (nthK ops.toList i)
theorem stepEK_eq (P : Program) (C : Caller) (nt : Nat) (ops : Array Oper) (s : PS) (i : Nat) : stepEK P C nt ops s i = stepE P C nt ops s i := by
  unfold stepEK
  rw [nthK_eq]
  cases ho : ops.toList[i]? with
  | none => unfold stepE; rw [ho]
  | some o =>
    show (@Option.rec (Nat × Bool) (fun _ => Option PS) (@Option.rec (Value × Heap) (fun _ => Option PS) none (effK nt s o i) (opK P C s.T s.H o.op)) (fun _ => stepE P C nt ops s i) o.guard) = _
    cases hg : o.guard with
    | some g => rfl
    | none =>
      show (@Option.rec (Value × Heap) (fun _ => Option PS) none (effK nt s o i) (opK P C s.T s.H o.op)) = _
      rw [opK_eq]
      unfold stepE
      rw [ho]
      simp only [hg, wantedV]
      cases runOp P C (opV s.T) s.H o.op with
      | none => rfl
      | some p => obtain ⟨v, H'⟩ := p; exact (forceP_eq v _).trans (didF_eq ..)
def stepsNK (P : Program) (nt : Nat) (ops : Array Oper) (l : List Nat) : PS → Option PS :=
  @List.rec Nat (fun _ => PS → Option PS) (fun s => some s) (fun i _ ih s => @Option.rec PS (fun _ => Option PS) none ih (stepNK P nt ops s i)) l
theorem stepsNK_eq (P : Program) (nt : Nat) (ops : Array Oper) : ∀ (l : List Nat) (s : PS), stepsNK P nt ops l s = stepsN P nt ops l s
  | [], s => rfl
  | i :: l, s => by
    show (@Option.rec PS (fun _ => Option PS) none (stepsNK P nt ops l) (stepNK P nt ops s i)) = _
    rw [stepNK_eq]
    unfold stepsN
    cases stepN P nt ops s i with
    | none => rfl
    | some s' => exact stepsNK_eq P nt ops l s'
def allK (P : Program) (ops : Array Oper) (s : PS) (l : List Nat) : Bool := @List.rec Nat (fun _ => Bool) true (fun i _ ih => @Bool.rec (fun _ => Bool) false ih (recheckK P ops s i)) l
theorem allK_eq (P : Program) (ops : Array Oper) (s : PS) : ∀ l : List Nat, allK P ops s l = l.all (recheck P ops s)
  | [] => rfl
  | i :: l => by
    show (@Bool.rec (fun _ => Bool) false (allK P ops s l) (recheckK P ops s i)) = _
    rw [allK_eq P ops s l, recheckK_eq, List.all_cons]
    cases recheck P ops s i <;> rfl
def runPlanK (P : Program) (C : Caller) (nt : Nat) (ops : Array Oper) (p : Plan) : PS → Option PS :=
  @List.rec Lvl (fun _ => PS → Option PS) (fun s => some s) (fun l _ ih s => @Option.rec PS (fun _ => Option PS) none (fun s1 => @Bool.rec (fun _ => Option PS) none
    (@Option.rec Nat (fun _ => Option PS) (ih s1) (fun e => @Option.rec PS (fun _ => Option PS) none ih (stepEK P C nt ops s1 e)) l.e) (allK P ops s1 l.cs)) (stepsNK P nt ops l.ns s)) p
theorem runPlanK_eq (P : Program) (C : Caller) (nt : Nat) (ops : Array Oper) : ∀ (p : Plan) (s : PS), runPlanK P C nt ops p s = runPlan P C nt ops p s
  | [], s => rfl
  | l :: p, s => by
    show (@Option.rec PS (fun _ => Option PS) none (fun s1 => @Bool.rec (fun _ => Option PS) none
      (@Option.rec Nat (fun _ => Option PS) (runPlanK P C nt ops p s1) (fun e => @Option.rec PS (fun _ => Option PS) none (runPlanK P C nt ops p) (stepEK P C nt ops s1 e)) l.e) (allK P ops s1 l.cs)) (stepsNK P nt ops l.ns s)) = _
    rw [stepsNK_eq]
    unfold runPlan
    cases stepsN P nt ops l.ns s with
    | none => rfl
    | some s1 =>
      show (@Bool.rec (fun _ => Option PS) none (@Option.rec Nat (fun _ => Option PS) (runPlanK P C nt ops p s1) (fun e => @Option.rec PS (fun _ => Option PS) none (runPlanK P C nt ops p) (stepEK P C nt ops s1 e)) l.e) (allK P ops s1 l.cs)) = _
      rw [allK_eq]
      simp only []
      cases hc : l.cs.all (recheck P ops s1) with
      | false => simp
      | true =>
        simp only [if_true]
        cases he : l.e with
        | none => exact runPlanK_eq P C nt ops p s1
        | some e =>
          show (@Option.rec PS (fun _ => Option PS) none (runPlanK P C nt ops p) (stepEK P C nt ops s1 e)) = _
          rw [stepEK_eq]
          simp only []
          cases stepE P C nt ops s1 e with
          | none => rfl
          | some s2 => exact runPlanK_eq P C nt ops p s2
end Ev
end Go.Proofs.YtepdkcikkemieaaGreat
