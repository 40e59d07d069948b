/- A part of the proof: walks of the code and laws that they use (Am4). Conditions: as each theorem names them. -/
import Derived.Laws.StructEq
import Derived.ChangeKeysEq
import Derived.Test.YtdognapppnfpiaaGreatDoorC2
section
set_option linter.unusedVariables false
set_option linter.unusedSimpArgs false
namespace Go.AM
open Go.RowKit
section
variable {P : Program} {ρ : Option Nat} {Q : Exit → AS → Prop} {σ : AS} {o : Oper} {ops : Array Oper} {l : List Oper}
theorem eqGuard_other (op : BinOp) (t : TypeId) (x y : Operand) (u v : Value) (h : match u, v with | .nilIface, .nilIface => False | .agg _, .agg _ => False | _, _ => True) (w : World) : (eqGuard op t x y u v).run P w = .ok () w := by
  cases op <;> cases u <;> cases v <;> first | rfl | exact h.elim
/-! ### Whole numbers -/
def intOp : BinOp → IntKind → Int → Int → Option Value
  | .add, k, x, y => some (.int k (k.wrap (x + y)))
  | .sub, k, x, y => some (.int k (k.wrap (x - y)))
  | .mul, k, x, y => some (.int k (k.wrap (x * y)))
  | .quo, k, x, y => some (.int k (k.wrap (x.tdiv y)))
  | .rem, k, x, y => some (.int k (x.tmod y))
  | .eql, _, x, y => some (.bool (decide (x = y)))
  | .neq, _, x, y => some (.bool (decide (x ≠ y)))
  | .lss, _, x, y => some (.bool (decide (x < y)))
  | .leq, _, x, y => some (.bool (decide (x ≤ y)))
  | .gtr, _, x, y => some (.bool (decide (x > y)))
  | .geq, _, x, y => some (.bool (decide (x ≥ y)))
  | .and, k, x, y => some (.int k (k.wrap (BitVec.ofInt k.bits x &&& BitVec.ofInt k.bits y).toNat))
  | .or, k, x, y => some (.int k (k.wrap (BitVec.ofInt k.bits x ||| BitVec.ofInt k.bits y).toNat))
  | .xor, k, x, y => some (.int k (k.wrap (BitVec.ofInt k.bits x ^^^ BitVec.ofInt k.bits y).toNat))
  | _, _, _, _ => none
def divSafe : BinOp → Int → Prop
  | .quo, y | .rem, y => y ≠ 0
  | _, _ => True
theorem PO_int {x y : Operand} {op : BinOp} {t t' : TypeId} {k : IntKind} {i j : Int} {v : Value} (ho : o.op = .binOp op t x y t') (hx : ev σ.tm x = some (.lit (.int k i))) (hy : ev σ.tm y = some (.lit (.int k j)))
    (hv : intOp op k i j = some v) (hd : divSafe op j) : PO P ρ o σ (.lit v) := by
  refine PO_of (by rw [ho]; simp) fun g I a w hs => ⟨v, ?_, .lit _ ?_⟩
  · have h1 := VR.lit_inv (hs.ev hx)
    have h2 := VR.lit_inv (hs.ev hy)
    simp only [execOp, ho, h1, h2, Sem.run_bind, eqGuard_other (P := P) op t x y (.int k i) (.int k j) trivial w, Result.andThen_ok]
    cases op <;> simp only [intOp, Option.some.injEq, reduceCtorEq] at hv <;> subst hv <;>
      simp [binOp, Op.intArith, Op.intCmp, Op.intDiv, Op.intBits, show ∀ a b : Int, (a == b) = decide (a = b) from fun a b => by rw [Bool.eq_iff_iff]; simp, bne]
    · simp only [divSafe] at hd; simp [hd]
    · simp only [divSafe] at hd; simp [hd]
  · cases op <;> simp only [intOp, Option.some.injEq, reduceCtorEq] at hv <;> subst hv <;> rfl
def shOp : BinOp → IntKind → Int → Int → Option Value
  | .shl, k, x, y => some (.int k (k.wrap (x * 2 ^ (min y.toNat k.bits))))
  | .shr, k, x, y => some (.int k (x.fdiv (2 ^ (min y.toNat k.bits))))
  | _, _, _, _ => none
theorem PO_shift {x y : Operand} {op : BinOp} {t t' : TypeId} {k k' : IntKind} {i j : Int} {v : Value} (ho : o.op = .binOp op t x y t') (hx : ev σ.tm x = some (.lit (.int k i))) (hy : ev σ.tm y = some (.lit (.int k' j)))
    (hv : shOp op k i j = some v) (hj : 0 ≤ j) : PO P ρ o σ (.lit v) := by
  refine PO_of (by rw [ho]; simp) fun g I a w hs => ⟨v, ?_, .lit _ ?_⟩
  · have h1 := VR.lit_inv (hs.ev hx)
    have h2 := VR.lit_inv (hs.ev hy)
    simp only [execOp, ho, h1, h2, Sem.run_bind, eqGuard_other (P := P) op t x y (.int k i) (.int k' j) trivial w, Result.andThen_ok]
    cases op <;> simp only [shOp, Option.some.injEq, reduceCtorEq] at hv <;> subst hv <;>
      simp [binOp, Op.shift, show ¬ j < 0 by omega]
  · cases op <;> simp only [shOp, Option.some.injEq, reduceCtorEq] at hv <;> subst hv <;> rfl
/-! ### Strings -/
def strOp : BinOp → ByteArray → ByteArray → Option Value
  | .eql, x, y => some (.bool (decide (x = y)))
  | .neq, x, y => some (.bool (decide (x ≠ y)))
  | .lss, x, y => some (.bool (Op.bytesLess x.toList y.toList))
  | .leq, x, y => some (.bool (Op.bytesLess x.toList y.toList || decide (x = y)))
  | .gtr, x, y => some (.bool (!(Op.bytesLess x.toList y.toList || decide (x = y))))
  | .geq, x, y => some (.bool (!Op.bytesLess x.toList y.toList))
  | _, _, _ => none
theorem toList_beq (x y : ByteArray) : (x.toList == y.toList) = decide (x = y) := by
  rw [← beq_toListBytes]
  obtain ⟨⟨x⟩⟩ := x
  obtain ⟨⟨y⟩⟩ := y
  show ((⟨x⟩ : Array UInt8) == ⟨y⟩) = _
  rw [Bool.eq_iff_iff]; simp
theorem PO_str {x y : Operand} {op : BinOp} {t t' : TypeId} {i j : ByteArray} {v : Value} (ho : o.op = .binOp op t x y t') (hx : ev σ.tm x = some (.lit (.string i))) (hy : ev σ.tm y = some (.lit (.string j)))
    (hv : strOp op i j = some v) : PO P ρ o σ (.lit v) := by
  refine PO_of (by rw [ho]; simp) fun g I a w hs => ⟨v, ?_, .lit _ ?_⟩
  · have h1 := VR.lit_inv (hs.ev hx)
    have h2 := VR.lit_inv (hs.ev hy)
    simp only [execOp, ho, h1, h2, Sem.run_bind, eqGuard_other (P := P) op t x y (.string i) (.string j) trivial w, Result.andThen_ok]
    cases op <;> simp only [strOp, Option.some.injEq, reduceCtorEq] at hv <;> subst hv <;>
      simp [binOp, Op.stringOp, toList_beq]
  · cases op <;> simp only [strOp, Option.some.injEq, reduceCtorEq] at hv <;> subst hv <;> rfl
theorem PO_concat {x y : Operand} {t t' : TypeId} {i j : ByteArray} (ho : o.op = .binOp .add t x y t') (hx : ev σ.tm x = some (.lit (.string i))) (hy : ev σ.tm y = some (.lit (.string j)))
    (hn : i.size + j.size ≤ 9223372036854775807) : PO P ρ o σ (.lit (.string (i ++ j))) := by
  refine PO_of (by rw [ho]; simp) fun g I a w hs => ⟨.string (i ++ j), ?_, .lit _ rfl⟩
  have h1 := VR.lit_inv (hs.ev hx)
  have h2 := VR.lit_inv (hs.ev hy)
  simp only [execOp, ho, h1, h2, Sem.run_bind, eqGuard_other (P := P) .add t x y (.string i) (.string j) trivial w, Result.andThen_ok]
  have : ¬ ((i.size + j.size : Nat) : Int) > IntKind.i64.max := by
    have h64 : IntKind.i64.max = 9223372036854775807 := by decide
    rw [h64]; omega
  simp only [binOp, Op.stringOp, if_neg this]
  rfl
/-! ### Bools -/
theorem PO_not {x : Operand} {t : TypeId} {b : Bool} (ho : o.op = .unOp .not t x) (hx : ev σ.tm x = some (.lit (.bool b))) : PO P ρ o σ (.lit (.bool (!b))) := by
  refine PO_of (by rw [ho]; simp) fun g I a w hs => ⟨.bool (!b), ?_, .lit _ rfl⟩
  have h1 := VR.lit_inv (hs.ev hx)
  simp [execOp, ho, h1, Op.unary]
theorem PO_neg {x : Operand} {t : TypeId} {k : IntKind} {i : Int} (ho : o.op = .unOp .neg t x) (hx : ev σ.tm x = some (.lit (.int k i))) : PO P ρ o σ (.lit (.int k (k.wrap (0 - i)))) := by
  refine PO_of (by rw [ho]; simp) fun g I a w hs => ⟨.int k (k.wrap (0 - i)), ?_, .lit _ rfl⟩
  have h1 := VR.lit_inv (hs.ev hx)
  simp [execOp, ho, h1, Op.unary, Op.intArith]
theorem PO_boolEq {x y : Operand} {t t' : TypeId} {p q : Bool} (ho : o.op = .binOp .eql t x y t') (ht : P.underlying t = some .bool) (hx : ev σ.tm x = some (.lit (.bool p))) (hy : ev σ.tm y = some (.lit (.bool q))) : PO P ρ o σ (.lit (.bool (p == q))) := by
  refine PO_of (by rw [ho]; simp) fun g I a w hs => ⟨.bool (p == q), ?_, .lit _ rfl⟩
  have h1 := VR.lit_inv (hs.ev hx)
  have h2 := VR.lit_inv (hs.ev hy)
  simp only [execOp, ho, h1, h2, Sem.run_bind, eqGuard_other (P := P) .eql t x y (.bool p) (.bool q) trivial w, Result.andThen_ok]
  simp [binOp, run_equal_bool (P := P) w t p q ht]
theorem PO_boolNe {x y : Operand} {t t' : TypeId} {p q : Bool} (ho : o.op = .binOp .neq t x y t') (ht : P.underlying t = some .bool) (hx : ev σ.tm x = some (.lit (.bool p))) (hy : ev σ.tm y = some (.lit (.bool q))) : PO P ρ o σ (.lit (.bool (!(p == q)))) := by
  refine PO_of (by rw [ho]; simp) fun g I a w hs => ⟨.bool (!(p == q)), ?_, .lit _ rfl⟩
  have h1 := VR.lit_inv (hs.ev hx)
  have h2 := VR.lit_inv (hs.ev hy)
  simp only [execOp, ho, h1, h2, Sem.run_bind, eqGuard_other (P := P) .neq t x y (.bool p) (.bool q) trivial w, Result.andThen_ok]
  simp [binOp, run_equal_bool (P := P) w t p q ht]
theorem equalIn_fn_nil (d : Nat) {t : TypeId} {ps rs : Array TypeId} {vr : Bool} (ht : P.underlying t = some (.func ps rs vr)) (f : Fn) (vf vc : Array Value) (w : World) : (Op.equalIn (d + 1) t (.func f vf vc) .nilFunc).run P w = .ok false w := by
  simp [Op.equalIn, run_underlying ht]
theorem equalIn_nil_nil (d : Nat) {t : TypeId} {ps rs : Array TypeId} {vr : Bool} (ht : P.underlying t = some (.func ps rs vr)) (w : World) : (Op.equalIn (d + 1) t .nilFunc .nilFunc).run P w = .ok true w := by
  simp [Op.equalIn, run_underlying ht]
/-! ### nil: functions, slices, interface values -/
theorem PO_fnNil {x y : Operand} {t t' : TypeId} {op : BinOp} {f : Fn} {fi ca : List AV} {ps rs : Array TypeId} {vr : Bool} (ho : o.op = .binOp op t x y t') (hop : op = .eql ∨ op = .neq) (ht : P.underlying t = some (.func ps rs vr))
    (hx : ev σ.tm x = some (.fn f fi ca)) (hy : ev σ.tm y = some (.lit .nilFunc)) : PO P ρ o σ (.lit (.bool (match op with | .neq => true | _ => false))) := by
  refine PO_of (by rw [ho]; simp) fun g I a w hs => ?_
  have hp := hs.ev hx
  have h2 := VR.lit_inv (hs.ev hy)
  generalize hu : a.eval x = p at hp
  cases hp with
  | fn _ _ _ vf vc _ _ _ _ =>
    refine ⟨_, ?_, .lit (.bool _) rfl⟩
    rcases hop with rfl | rfl
    · simp only [execOp, ho, hu, h2, Sem.run_bind, eqGuard_other (P := P) .eql t x y (.func f vf vc) .nilFunc trivial w, Result.andThen_ok]
      simp only [binOp, Op.equal, Op.maxDepth, Sem.run_bind, equalIn_fn_nil 9999 ht, Result.andThen_ok, Sem.run_pure, Bool.not_false]
    · simp only [execOp, ho, hu, h2, Sem.run_bind, eqGuard_other (P := P) .neq t x y (.func f vf vc) .nilFunc trivial w, Result.andThen_ok]
      simp only [binOp, Op.equal, Op.maxDepth, Sem.run_bind, equalIn_fn_nil 9999 ht, Result.andThen_ok, Sem.run_pure, Bool.not_false]
theorem PO_nilNil {x y : Operand} {t t' : TypeId} {op : BinOp} {ps rs : Array TypeId} {vr : Bool} (ho : o.op = .binOp op t x y t') (hop : op = .eql ∨ op = .neq) (ht : P.underlying t = some (.func ps rs vr))
    (hx : ev σ.tm x = some (.lit .nilFunc)) (hy : ev σ.tm y = some (.lit .nilFunc)) : PO P ρ o σ (.lit (.bool (match op with | .neq => false | _ => true))) := by
  refine PO_of (by rw [ho]; simp) fun g I a w hs => ?_
  have h1 := VR.lit_inv (hs.ev hx)
  have h2 := VR.lit_inv (hs.ev hy)
  refine ⟨_, ?_, .lit (.bool _) rfl⟩
  rcases hop with rfl | rfl
  · simp only [execOp, ho, h1, h2, Sem.run_bind, eqGuard_other (P := P) .eql t x y .nilFunc .nilFunc trivial w, Result.andThen_ok]
    simp only [binOp, Op.equal, Op.maxDepth, Sem.run_bind, equalIn_nil_nil 9999 ht, Result.andThen_ok, Sem.run_pure, Bool.not_true]
  · simp only [execOp, ho, h1, h2, Sem.run_bind, eqGuard_other (P := P) .neq t x y .nilFunc .nilFunc trivial w, Result.andThen_ok]
    simp only [binOp, Op.equal, Op.maxDepth, Sem.run_bind, equalIn_nil_nil 9999 ht, Result.andThen_ok, Sem.run_pure, Bool.not_true]
/-! ### Equality of structs and arrays, cell by cell -/
theorem kOks_length : ∀ {ks : List CK} {us : List Value}, kOks ks us = true → us.length = ks.length
  | [], [], _ => rfl
  | _ :: ks, _ :: us, h => by simp only [kOks, Bool.and_eq_true] at h; simp [kOks_length h.2]
  | [], _ :: _, h => by simp [kOks] at h
  | _ :: _, [], h => by simp [kOks] at h
theorem kOks_append : ∀ {ks ls : List CK} {us : List Value}, kOks (ks ++ ls) us = true → kOks ks (us.take ks.length) = true ∧ kOks ls (us.drop ks.length) = true
  | [], _, us, h => ⟨by simp [kOks], by simpa using h⟩
  | k :: ks, ls, [], h => by simp [kOks] at h
  | k :: ks, ls, u :: us, h => by
    simp only [List.cons_append, kOks, Bool.and_eq_true] at h
    have := kOks_append h.2
    exact ⟨by simp only [List.length_cons, List.take_succ_cons, kOks, Bool.and_eq_true]; exact ⟨h.1, this.1⟩, by simpa using this.2⟩
theorem vEqs_split : ∀ (n : Nat) (us vs : List Value), us.length = vs.length → vEqs us vs = (vEqs (us.take n) (vs.take n) && vEqs (us.drop n) (vs.drop n))
  | 0, us, vs, _ => by simp [vEqs]
  | n + 1, [], [], _ => by simp [vEqs]
  | n + 1, [], _ :: _, h => by simp at h
  | n + 1, _ :: _, [], h => by simp at h
  | n + 1, u :: us, v :: vs, h => by
    simp only [List.take_succ_cons, List.drop_succ_cons, vEqs]
    rw [vEqs_split n us vs (by simpa using h), Bool.and_assoc]
def EqT (P : Program) (d : Nat) (t : TypeId) (agg : Bool) (ks : List CK) : Prop :=
  ∀ w us vs, kOks ks us = true → kOks ks vs = true → (Op.equalIn d t (mkV agg us) (mkV agg vs)).run P w = .ok (vEqs us vs) w
theorem kOks_one {k : CK} {us : List Value} (h : kOks [k] us = true) : ∃ u, us = [u] ∧ kOk k u = true := by
  match us, h with
  | [u], h => exact ⟨u, rfl, by simpa [kOks] using h⟩
  | [], h => simp [kOks] at h
  | _ :: _ :: _, h => simp [kOks] at h
theorem kOk_int {k : IntKind} {v : Value} (h : kOk (.int k) v = true) : ∃ n, v = .int k n := by
  match v, h with
  | .int k' n, h =>
    have : k = k' := by simpa [kOk] using h
    subst this
    exact ⟨n, rfl⟩
theorem kOk_str {v : Value} (h : kOk .str v = true) : ∃ n, v = .string n := by
  cases v <;> first | exact ⟨_, rfl⟩ | (exfalso; exact absurd h (by simp [kOk]))
theorem kOk_bool {v : Value} (h : kOk .bool v = true) : ∃ n, v = .bool n := by
  cases v <;> first | exact ⟨_, rfl⟩ | (exfalso; exact absurd h (by simp [kOk]))
theorem EqT_int {t : TypeId} {k : IntKind} (d : Nat) (h : P.underlying t = some (.int k)) : EqT P (d + 1) t false [.int k] := by
  intro w us vs h1 h2
  obtain ⟨u, rfl, g1⟩ := kOks_one h1
  obtain ⟨v, rfl, g2⟩ := kOks_one h2
  clear h1 h2
  obtain ⟨p, rfl⟩ := kOk_int g1
  obtain ⟨q, rfl⟩ := kOk_int g2
  simp only [mkV, List.headD_cons, run_equalIn_int w d t _ _ _ _ h, vEqs, vEq, Bool.and_true]
  rw [show ∀ a b : Int, (a == b) = decide (a = b) from fun a b => by rw [Bool.eq_iff_iff]; simp]
theorem EqT_bool {t : TypeId} (d : Nat) (h : P.underlying t = some .bool) : EqT P (d + 1) t false [.bool] := by
  intro w us vs h1 h2
  obtain ⟨u, rfl, g1⟩ := kOks_one h1
  obtain ⟨v, rfl, g2⟩ := kOks_one h2
  clear h1 h2
  obtain ⟨p, rfl⟩ := kOk_bool g1
  obtain ⟨q, rfl⟩ := kOk_bool g2
  simp only [mkV, List.headD_cons, run_equalIn_bool w d t _ _ h, vEqs, vEq, Bool.and_true]
  rw [show ∀ a b : Bool, (a == b) = decide (a = b) from fun a b => by cases a <;> cases b <;> rfl]
theorem EqT_str {t : TypeId} (d : Nat) (h : P.underlying t = some .string) : EqT P (d + 1) t false [.str] := by
  intro w us vs h1 h2
  obtain ⟨u, rfl, g1⟩ := kOks_one h1
  obtain ⟨v, rfl, g2⟩ := kOks_one h2
  clear h1 h2
  obtain ⟨p, rfl⟩ := kOk_str g1
  obtain ⟨q, rfl⟩ := kOk_str g2
  simp only [mkV, List.headD_cons, run_equalIn_string w d t _ _ h, vEqs, vEq, Bool.and_true, toList_beq]
theorem part_list {t : TypeId} {d : TypeDesc} {n : Nat} (ht : TyF P t d n) (us : List Value) (off : Nat) (hn : off + n ≤ us.length) (h1 : isAggD d = false → n = 1) (w : World) :
    (part t us.toArray off).run P w = .ok (mkV (isAggD d) ((us.drop off).take n)) w := by
  unfold part
  rw [Sem.run_bind, run_isAgg ht]
  simp only [Result.andThen_ok]
  cases hd : isAggD d with
  | true =>
    simp only [Sem.run_bind, run_sizeOf' ht, Result.andThen_ok, if_true, mkV, Sem.run_pure]
    congr 2
    apply Array.ext'
    simp only [Array.toList_extract, List.extract_eq_take_drop, List.toList_toArray]
    congr 1; omega
  | false =>
    obtain rfl := h1 hd
    have hlt : off < us.length := by omega
    have e1 : us.toArray[off]? = some us[off] := by simp [hlt]
    have e2 : mkV false ((us.drop off).take 1) = us[off] := by
      rw [List.drop_eq_getElem_cons hlt]; rfl
    simp only [Bool.false_eq_true, if_false, e1, e2, Sem.run_pure]
inductive EqFs (P : Program) (d : Nat) : Nat → List Field → List CK → Prop
  | nil (off : Nat) : EqFs P d off [] []
  | cons {off : Nat} {f : Field} {fs : List Field} {ks ls : List CK} {dd : TypeDesc} (hn : f.name ≠ "_") (ho : f.offset = off) (hp : 0 < ks.length) (ht : TyF P f.type dd ks.length) (h1 : isAggD dd = false → ks.length = 1)
      (he : EqT P d f.type (isAggD dd) ks) (hr : EqFs P d (off + ks.length) fs ls) : EqFs P d off (f :: fs) (ks ++ ls)
theorem eqFields_run {d : Nat} {fs : List Field} {off : Nat} {ks : List CK} (h : EqFs P d off fs ks) : ∀ (us vs : List Value) (w : World), kOks ks (us.drop off) = true → kOks ks (vs.drop off) = true →
    (Op.eqFields d us.toArray vs.toArray fs).run P w = .ok (vEqs (us.drop off) (vs.drop off)) w := by
  induction h with
  | nil off =>
    intro us vs w h1 h2
    have e1 := kOks_length h1
    have e2 := kOks_length h2
    rw [List.eq_nil_of_length_eq_zero e1, List.eq_nil_of_length_eq_zero e2]
    rfl
  | @cons off f fs ks ls dd hn ho hp ht h1 he hr ih =>
    intro us vs w hu hv
    obtain ⟨a1, a2⟩ := kOks_append hu
    obtain ⟨b1, b2⟩ := kOks_append hv
    have lu := kOks_length hu
    have lv := kOks_length hv
    simp only [List.length_drop, List.length_append] at lu lv
    rw [List.drop_drop] at a2 b2
    have hk : off + ks.length ≤ us.length ∧ off + ks.length ≤ vs.length := by omega
    simp only [Op.eqFields, if_pos hn]
    simp only [Sem.run_bind, ho, part_list ht us off hk.1 h1, part_list ht vs off hk.2 h1, Result.andThen_ok, he w _ _ a1 b1]
    rw [vEqs_split ks.length (us.drop off) (vs.drop off) (by simp; omega), List.drop_drop, List.drop_drop]
    cases hr' : vEqs (List.take ks.length (List.drop off us)) (List.take ks.length (List.drop off vs)) with
    | true => simpa using ih us vs w a2 b2
    | false => simp
theorem EqT_struct {t : TypeId} {fs : Array Field} {ks : List CK} (d : Nat) (hu : P.underlying t = some (.struct fs)) (hp : P.stoodInHeld t = false) (hf : EqFs P d 0 fs.toList ks) : EqT P (d + 1) t true ks := by
  intro w us vs h1 h2
  have hfo : P.fieldsOf t = fs := by simp [Program.fieldsOf, hu]
  have := run_equalIn_struct (P := P) w d t us.toArray vs.toArray (by rw [hfo]; exact hu) hp
  simp only [mkV]
  rw [this, hfo]
  have := eqFields_run hf us vs w (by simpa using h1) (by simpa using h2)
  simpa using this
theorem eqItems_run {d : Nat} {e : TypeId} {dd : TypeDesc} {ks : List CK} (he : TyF P e dd ks.length) (h1 : isAggD dd = false → ks.length = 1) (hE : EqT P d e (isAggD dd) ks) :
    ∀ (n i : Nat) (us vs : List Value) (w : World), kOks (List.replicate n ks).flatten (us.drop (i * ks.length)) = true → kOks (List.replicate n ks).flatten (vs.drop (i * ks.length)) = true →
    us.length = (i + n) * ks.length → vs.length = (i + n) * ks.length →
    (Op.eqItems d e ks.length us.toArray vs.toArray (List.range' i n)).run P w = .ok (vEqs (us.drop (i * ks.length)) (vs.drop (i * ks.length))) w := by
  intro n
  induction n with
  | zero =>
    intro i us vs w hu hv lu lv
    rw [List.drop_of_length_le (by simp [lu]), List.drop_of_length_le (by simp [lv])]
    rfl
  | succ n ih =>
    intro i us vs w hu hv lu lv
    simp only [List.replicate_succ, List.flatten_cons] at hu hv
    obtain ⟨a1, a2⟩ := kOks_append hu
    obtain ⟨b1, b2⟩ := kOks_append hv
    rw [List.drop_drop] at a2 b2
    have e1 : i * ks.length + ks.length = (i + 1) * ks.length := by rw [Nat.add_mul, Nat.one_mul]
    rw [e1] at a2 b2
    have hle : i * ks.length + ks.length ≤ us.length := by rw [lu, e1]; exact Nat.mul_le_mul_right _ (by omega)
    have hle' : i * ks.length + ks.length ≤ vs.length := by rw [lv, e1]; exact Nat.mul_le_mul_right _ (by omega)
    simp only [List.range'_succ, Op.eqItems, Sem.run_bind, part_list he us _ hle h1, part_list he vs _ hle' h1, Result.andThen_ok, hE w _ _ a1 b1]
    rw [vEqs_split ks.length (us.drop (i * ks.length)) (vs.drop (i * ks.length)) (by simp; omega), List.drop_drop, List.drop_drop, e1]
    cases hr' : vEqs (List.take ks.length (List.drop (i * ks.length) us)) (List.take ks.length (List.drop (i * ks.length) vs)) with
    | true =>
      have := ih (i + 1) us vs w a2 b2 (by rw [lu]; congr 1; omega) (by rw [lv]; congr 1; omega)
      simpa using this
    | false => simp
theorem EqT_array {t e : TypeId} {n : Nat} {ks : List CK} {dd : TypeDesc} (d : Nat) (hu : P.underlying t = some (.array n e)) (he : TyF P e dd ks.length) (h1 : isAggD dd = false → ks.length = 1) (hE : EqT P d e (isAggD dd) ks) :
    EqT P (d + 1) t true (List.replicate n ks).flatten := by
  intro w us vs hus hvs
  obtain ⟨i, hi, hsz⟩ := he.i
  have hc : P.cellsOf e = ks.length := by simp [Program.cellsOf, hi, hsz]
  simp only [mkV]
  rw [run_equalIn_array (P := P) w d us.toArray vs.toArray hu hi, hc, List.range_eq_range']
  have l1 := kOks_length hus
  have l2 := kOks_length hvs
  have hl : (List.replicate n ks).flatten.length = n * ks.length := by simp [List.length_flatten]
  have := eqItems_run he h1 hE n 0 us vs w (by simpa using hus) (by simpa using hvs) (by rw [l1, hl]; simp) (by rw [l2, hl]; simp)
  simpa using this
def lits : List AV → Option (List Value)
  | [] => some []
  | .lit v :: r => match lits r with
    | some vs => some (v :: vs)
    | none => none
  | _ :: _ => none
theorem lits_map : ∀ {cs : List AV} {us : List Value}, lits cs = some us → cs = us.map AV.lit
  | [], us, h => by simp [lits] at h; subst h; rfl
  | a :: r, us, h => by
    cases a <;> simp only [lits, reduceCtorEq] at h
    split at h
    · rename_i vs hv
      simp only [Option.some.injEq] at h
      subst h
      rw [List.map_cons, ← lits_map hv]
    · cases h
theorem agg_lits {I : Imm} {cs : List AV} {us : List Value} (hl : lits cs = some us) {v : Value} (h : VR I (.agg cs) v) : v = .agg us.toArray := by
  cases h with
  | agg _ vs hsz hcl hv =>
    congr 1
    have := lits_map hl
    subst this
    apply Array.ext
    · simpa using hsz
    · intro i h1 h2
      have h3 : i < us.length := by simpa using h2
      have := hv i (.lit us[i]) (by simp [h3])
      have := VR.lit_inv this
      simp only [Array.getD_eq_getD_getElem?, Array.getElem?_eq_getElem h1, Option.getD_some] at this
      simp [this]
theorem PO_aggEq {x y : Operand} {t t' : TypeId} {ks : List CK} {cs ds : List AV} {us vs : List Value} (ho : o.op = .binOp .eql t x y t') (hE : EqT P 10000 t true ks) (hG : P.eqGuardType P.depth t = false)
    (hx : ev σ.tm x = some (.agg cs)) (hy : ev σ.tm y = some (.agg ds)) (hu : lits cs = some us) (hv : lits ds = some vs) (ku : kOks ks us = true) (kv : kOks ks vs = true) : PO P ρ o σ (.lit (.bool (vEqs us vs))) := by
  refine PO_of (by rw [ho]; simp) fun g I a w hs => ⟨.bool (vEqs us vs), ?_, .lit _ rfl⟩
  have h1 := agg_lits hu (hs.ev hx)
  have h2 := agg_lits hv (hs.ev hy)
  have hq := hE w us vs ku kv
  simp only [mkV] at hq
  simp only [execOp, ho, h1, h2, Sem.run_bind, run_eqGuard_agg (P := P) w .eql t x y _ _ hG, Result.andThen_ok, run_eql_struct, hq, Sem.run_pure]
theorem PO_aggNe {x y : Operand} {t t' : TypeId} {ks : List CK} {cs ds : List AV} {us vs : List Value} (ho : o.op = .binOp .neq t x y t') (hE : EqT P 10000 t true ks) (hG : P.eqGuardType P.depth t = false)
    (hx : ev σ.tm x = some (.agg cs)) (hy : ev σ.tm y = some (.agg ds)) (hu : lits cs = some us) (hv : lits ds = some vs) (ku : kOks ks us = true) (kv : kOks ks vs = true) : PO P ρ o σ (.lit (.bool (!vEqs us vs))) := by
  refine PO_of (by rw [ho]; simp) fun g I a w hs => ⟨.bool (!vEqs us vs), ?_, .lit _ rfl⟩
  have h1 := agg_lits hu (hs.ev hx)
  have h2 := agg_lits hv (hs.ev hy)
  have hq := hE w us vs ku kv
  simp only [mkV] at hq
  simp only [execOp, ho, h1, h2, Sem.run_bind, run_eqGuard_agg (P := P) w .neq t x y _ _ hG, Result.andThen_ok, run_neq_struct, hq, Sem.run_pure]
/-! ### Conversions -/
theorem PO_convInt {x : Operand} {s t : TypeId} {k k' : IntKind} {i : Int} {ds : TypeDesc} (ho : o.op = .convert s t x) (hs' : P.underlying s = some ds) (ht : P.underlying t = some (.int k)) (hx : ev σ.tm x = some (.lit (.int k' i))) :
    PO P ρ o σ (.lit (.int k (k.wrap i))) := by
  refine PO_of (by rw [ho]; simp) fun g I a w hs => ⟨.int k (k.wrap i), ?_, .lit _ rfl⟩
  have h1 := VR.lit_inv (hs.ev hx)
  simp only [execOp, ho, h1]
  cases ds <;> simp [convert, run_underlying hs', run_underlying ht, Conv.intToInt]
theorem PO_convStr {x : Operand} {s t : TypeId} {i : ByteArray} {ds : TypeDesc} (ho : o.op = .convert s t x) (hs' : P.underlying s = some ds) (ht : P.underlying t = some .string) (hx : ev σ.tm x = some (.lit (.string i))) :
    PO P ρ o σ (.lit (.string i)) := by
  refine PO_of (by rw [ho]; simp) fun g I a w hs => ⟨.string i, ?_, .lit _ rfl⟩
  have h1 := VR.lit_inv (hs.ev hx)
  simp only [execOp, ho, h1]
  cases ds <;> simp [convert, run_underlying hs', run_underlying ht]
/-! ### len -/
theorem exec_len {t rt : TypeId} {x : Operand} {ρ' : Operand → Value} (ho : o.op = .call { callee := .builtin .len, args := #[x], argTypes := #[t] }) (w : World) :
    (execOp ρ' o).run P w = ((Builtin.len_ #[t] o.type #[ρ' x]).run P w).andThen fun v w' => .ok (.value v) w' := by
  simp [execOp, ho, resolve, invoke, builtin]
theorem PO_len {x : Operand} {t : TypeId} {S : Nat} {own : Own} {es : List (List AV)} {e : TypeId} (ho : o.op = .call { callee := .builtin .len, args := #[x], argTypes := #[t] }) (ht : P.underlying t = some (.slice e))
    (hx : ev σ.tm x = some (.sl own S es)) : PO P ρ o σ (.lit (.int .i64 es.length)) := by
  refine PO_of (by rw [ho]; simp) fun g I a w hs => ⟨.int .i64 es.length, ?_, .lit _ rfl⟩
  have hp := hs.ev hx
  generalize hu : a.eval x = p at hp
  rw [exec_len (rt := 0) ho, hu]
  cases hp <;> simp [Builtin.len_, run_underlying ht, goInt]
theorem PO_len_ms {x : Operand} {t : TypeId} {S b off len cap : Nat} {e : TypeId} (ho : o.op = .call { callee := .builtin .len, args := #[x], argTypes := #[t] }) (ht : P.underlying t = some (.slice e))
    (hx : ev σ.tm x = some (.ms b off S len cap)) : PO P ρ o σ (.lit (.int .i64 len)) := by
  refine PO_of (by rw [ho]; simp) fun g I a w hs => ⟨.int .i64 len, ?_, .lit _ rfl⟩
  have hp := hs.ev hx
  generalize hu : a.eval x = p at hp
  rw [exec_len (rt := 0) ho, hu]
  cases hp; simp [Builtin.len_, run_underlying ht, goInt]
theorem PO_len_str {x : Operand} {t : TypeId} {s : ByteArray} (ho : o.op = .call { callee := .builtin .len, args := #[x], argTypes := #[t] }) (ht : P.underlying t = some .string)
    (hx : ev σ.tm x = some (.lit (.string s))) : PO P ρ o σ (.lit (.int .i64 s.size)) := by
  refine PO_of (by rw [ho]; simp) fun g I a w hs => ⟨.int .i64 s.size, ?_, .lit _ rfl⟩
  have h1 := VR.lit_inv (hs.ev hx)
  rw [exec_len (rt := 0) ho, h1]
  simp [Builtin.len_, run_underlying ht, goInt]
/-! ### min of whole numbers -/
theorem PO_min {x y : Operand} {ts : Array TypeId} {k : IntKind} {i j : Int} (ho : o.op = .call { callee := .builtin .min, args := #[x, y], argTypes := ts })
    (hx : ev σ.tm x = some (.lit (.int k i))) (hy : ev σ.tm y = some (.lit (.int k j))) : PO P ρ o σ (.lit (.int k (if j < i then j else i))) := by
  refine PO_of (by rw [ho]; simp) fun g I a w hs => ⟨.int k (if j < i then j else i), ?_, .lit _ rfl⟩
  have h1 := VR.lit_inv (hs.ev hx)
  have h2 := VR.lit_inv (hs.ev hy)
  simp [execOp, ho, resolve, invoke, builtin, Builtin.min_, Builtin.min2, h1, h2]
theorem PO_max {x y : Operand} {ts : Array TypeId} {k : IntKind} {i j : Int} (ho : o.op = .call { callee := .builtin .max, args := #[x, y], argTypes := ts })
    (hx : ev σ.tm x = some (.lit (.int k i))) (hy : ev σ.tm y = some (.lit (.int k j))) : PO P ρ o σ (.lit (.int k (if i < j then j else i))) := by
  refine PO_of (by rw [ho]; simp) fun g I a w hs => ⟨.int k (if i < j then j else i), ?_, .lit _ rfl⟩
  have h1 := VR.lit_inv (hs.ev hx)
  have h2 := VR.lit_inv (hs.ev hy)
  simp [execOp, ho, resolve, invoke, builtin, Builtin.max_, Builtin.max2, h1, h2]
/-! ### Functions as values -/
theorem PO_makeFunc {fn : Fn} {fi ca : Array Operand} {vf vc : List AV} (ho : o.op = .makeFunc fn fi ca) (hf : fi.toList.mapM (ev σ.tm) = some vf) (hc : ca.toList.mapM (ev σ.tm) = some vc) : PO P ρ o σ (.fn fn vf vc) := by
  refine PO_of (by rw [ho]; simp) fun g I a w hs => ⟨.func fn (fi.map a.eval) (ca.map a.eval), ?_, ?_⟩
  · simp [execOp, ho, Instr.makeFunc]
  · have key : ∀ (xs : List Operand) (vs : List AV), xs.mapM (ev σ.tm) = some vs → xs.length = vs.length ∧ ∀ (i : Nat) (v : AV), vs[i]? = some v → ∃ x, xs[i]? = some x ∧ VR I v (a.eval x) := by
      intro xs
      induction xs with
      | nil => intro vs h; simp at h; subst h; simp
      | cons x xs ih =>
        intro vs h
        simp only [List.mapM_cons, Option.bind_eq_bind, Option.bind_eq_some_iff] at h
        obtain ⟨v, hv, ws, hws, h⟩ := h
        simp only [Option.pure_def, Option.some.injEq] at h
        subst h
        obtain ⟨i1, i2⟩ := ih ws hws
        refine ⟨by simp [i1], ?_⟩
        intro i u hu
        cases i with
        | zero => simp at hu; subst hu; exact ⟨x, rfl, hs.ev hv⟩
        | succ i => simpa using i2 i u (by simpa using hu)
    obtain ⟨l1, k1⟩ := key _ _ hf
    obtain ⟨l2, k2⟩ := key _ _ hc
    refine .fn _ _ _ _ _ (by simpa using l1) (by simpa using l2) (fun i v h => ?_) (fun i v h => ?_)
    · obtain ⟨x, hx, hv⟩ := k1 i v h
      simp at hx
      simp [Array.getD_eq_getD_getElem?, hx, hv]
    · obtain ⟨x, hx, hv⟩ := k2 i v h
      simp at hx
      simp [Array.getD_eq_getD_getElem?, hx, hv]
end
end Go.AM
end
