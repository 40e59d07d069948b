/- A part of the proof: walks of the code and laws that they use (Am8). Conditions: as each theorem names them. -/
import Derived.WideKeyRuns
import Derived.Test.YtdognapppnfpiaaGreatDoorC4
section
set_option linter.unusedVariables false
set_option linter.unusedSimpArgs false
namespace Go.AM
open Go.RowKit
section
variable {P : Program}
/-! ### A key is looked at -/
def CkT (P : Program) (d : Nat) (t : TypeId) (agg : Bool) (ks : List CK) : Prop :=
  ∀ em w us, kOks ks us = true → (Instr.checkKey em d t (mkV agg us)).run P w = .ok () w
theorem CkT_plain {t : TypeId} {dd : TypeDesc} {k : CK} (d : Nat) (h : P.underlying t = some dd) (hd : dd = .string ∨ dd = .bool ∨ ∃ q, dd = .int q) : CkT P (d + 1) t false [k] := by
  intro em w us hk
  obtain ⟨u, rfl, _⟩ := kOks_one hk
  rcases hd with rfl | rfl | ⟨q, rfl⟩ <;> simp [Instr.checkKey, run_underlying h, mkV]
inductive CkFs (P : Program) (d : Nat) : Nat → List Field → List CK → Prop
  | nil (off : Nat) : CkFs P d off [] []
  | cons {off : Nat} {f : Field} {fs : List Field} {ks ls : List CK} {dd : TypeDesc} (ho : f.offset = off) (hp : 0 < ks.length) (ht : TyF P f.type dd ks.length) (h1 : isAggD dd = false → ks.length = 1)
      (he : CkT P d f.type (isAggD dd) ks) (hr : CkFs P d (off + ks.length) fs ls) : CkFs P d off (f :: fs) (ks ++ ls)
theorem ckFields_run {d : Nat} {em : Bool} {fs : List Field} {off : Nat} {ks : List CK} (h : CkFs P d off fs ks) : ∀ (us : List Value) (w : World), kOks ks (us.drop off) = true →
    (forIn fs PUnit.unit fun (f : Field) (_ : PUnit) => (do if f.name ≠ "_" then Instr.checkKey em d f.type (← part f.type us.toArray f.offset)
                                                            pure (ForInStep.yield PUnit.unit) : Sem (ForInStep PUnit))).run P w = .ok PUnit.unit w := by
  induction h with
  | nil off => intro us w h; simp
  | @cons off f fs ks ls dd ho hp ht h1 he hr ih =>
    intro us w hu
    obtain ⟨a1, a2⟩ := kOks_append hu
    have lu := kOks_length hu
    simp only [List.length_drop, List.length_append] at lu
    rw [List.drop_drop] at a2
    have hk : off + ks.length ≤ us.length := by omega
    simp only [List.forIn_cons]
    by_cases hn : f.name ≠ "_"
    · simp only [if_pos hn, Sem.run_bind, ho, part_list ht us off hk h1, Result.andThen_ok, he em w _ a1, Sem.run_pure]
      exact ih us w a2
    · simp only [if_neg hn, Sem.run_bind, Sem.run_pure, Result.andThen_ok]
      exact ih us w a2
theorem CkT_struct {t : TypeId} {fs : Array Field} {ks : List CK} (d : Nat) (hu : P.underlying t = some (.struct fs)) (hf : CkFs P d 0 fs.toList ks) : CkT P (d + 1) t true ks := by
  intro em w us hk
  have := ckFields_run (em := em) hf us w (by simpa using hk)
  simp only [mkV, Instr.checkKey, Sem.run_bind, run_underlying hu, Result.andThen_ok, Array.forIn_toList] at this ⊢
  rw [this]
  rfl
theorem ckItems_run {d : Nat} {em : Bool} {e : TypeId} {dd : TypeDesc} {ks : List CK} (he : TyF P e dd ks.length) (h1 : isAggD dd = false → ks.length = 1) (hE : CkT P d e (isAggD dd) ks) :
    ∀ (n i : Nat) (us : List Value) (w : World), kOks (List.replicate n ks).flatten (us.drop (i * ks.length)) = true → us.length = (i + n) * ks.length →
    (forIn (List.range' i n) PUnit.unit fun (i : Nat) (_ : PUnit) => (do Instr.checkKey em d e (← part e us.toArray (i * (← sizeOf e)))
                                                                         pure (ForInStep.yield PUnit.unit) : Sem (ForInStep PUnit))).run P w = .ok PUnit.unit w := by
  intro n
  induction n with
  | zero => intro i us w _ _; simp
  | succ n ih =>
    intro i us w hu lu
    simp only [List.replicate_succ, List.flatten_cons] at hu
    obtain ⟨a1, a2⟩ := kOks_append hu
    rw [List.drop_drop] at a2
    have e1 : i * ks.length + ks.length = (i + 1) * ks.length := by rw [Nat.add_mul, Nat.one_mul]
    rw [e1] at a2
    have hle : i * ks.length + ks.length ≤ us.length := by rw [lu, e1]; exact Nat.mul_le_mul_right _ (by omega)
    simp only [List.range'_succ, List.forIn_cons, Sem.run_bind, run_sizeOf' he, Result.andThen_ok, part_list he us _ hle h1, hE em w _ a1, Sem.run_pure]
    have := ih (i + 1) us w a2 (by rw [lu]; congr 1; omega)
    simpa [Sem.run_bind, run_sizeOf' he] using this
theorem CkT_array {t e : TypeId} {n : Nat} {ks : List CK} {dd : TypeDesc} (d : Nat) (hu : P.underlying t = some (.array n e)) (he : TyF P e dd ks.length) (h1 : isAggD dd = false → ks.length = 1) (hE : CkT P d e (isAggD dd) ks) :
    CkT P (d + 1) t true (List.replicate n ks).flatten := by
  intro em w us hk
  have l1 := kOks_length hk
  have hl : (List.replicate n ks).flatten.length = n * ks.length := by simp [List.length_flatten]
  have := ckItems_run (em := em) he h1 hE n 0 us w (by simpa using hk) (by rw [l1, hl]; simp)
  simp only [mkV, Instr.checkKey, Sem.run_bind, run_underlying hu, Result.andThen_ok]
  simp only [Std.Legacy.Range.forIn_eq_forIn_range', Std.Legacy.Range.size, Nat.sub_zero, Nat.add_one_sub_one, Nat.div_one]
  rw [this]
  rfl
/-! ### Looking for a key -/
def afind (k : List Value) : List (List Value × AV) → Nat → Option (Nat × AV)
  | [], _ => none
  | p :: r, i => match vEqs k p.1 with
    | true => some (i, p.2)
    | false => afind k r (i + 1)
def aget (k : List Value) : List (List Value × AV) → Option AV
  | [] => none
  | p :: r => match vEqs k p.1 with
    | true => some p.2
    | false => aget k r
def aput (k : List Value) (v : AV) : List (List Value × AV) → List (List Value × AV)
  | [] => [(k, v)]
  | p :: r => match vEqs k p.1 with
    | true => (k, v) :: r
    | false => p :: aput k v r
theorem afind_aget (k : List Value) : ∀ (es : List (List Value × AV)) (i : Nat), (afind k es i).map (·.2) = aget k es
  | [], _ => rfl
  | p :: r, i => by
    simp only [afind, aget]
    split
    · rfl
    · exact afind_aget k r (i + 1)
def EntsR (I : Imm) (ks : List CK) (agg : Bool) (es : List (List Value × AV)) (ents : List MapEntry) : Prop :=
  ents.length = es.length ∧ ∀ (i : Nat) (p : List Value × AV) (e : MapEntry), es[i]? = some p → ents[i]? = some e → kOks ks p.1 = true ∧ e.key = mkV agg p.1 ∧ VR I p.2 e.val
theorem EntsR.cons {I : Imm} {ks : List CK} {agg : Bool} {p : List Value × AV} {es : List (List Value × AV)} {e : MapEntry} {ents : List MapEntry} (h : EntsR I ks agg (p :: es) (e :: ents)) :
    (kOks ks p.1 = true ∧ e.key = mkV agg p.1 ∧ VR I p.2 e.val) ∧ EntsR I ks agg es ents :=
  ⟨h.2 0 p e rfl rfl, by have := h.1; simpa using this, fun i q f h1 h2 => h.2 (i + 1) q f (by simpa using h1) (by simpa using h2)⟩
structure KeyF (P : Program) (kt : TypeId) (agg : Bool) (ks : List CK) : Prop where
  d : ∃ dd, P.underlying kt = some dd ∧ ((agg = true ∧ isAggD dd = true) ∨ (agg = false ∧ ((dd = .string ∧ ks = [.str]) ∨ (dd = .bool ∧ ks = [.bool]) ∨ ∃ q, dd = .int q ∧ ks = [.int q])))
  eq : EqT P 10000 kt agg ks
  ck : CkT P 10000 kt agg ks
theorem findAsking_run {I : Imm} {kt : TypeId} {agg : Bool} {ks : List CK} (hE : EqT P 10000 kt agg ks) {k : List Value} (hk : kOks ks k = true) (w : World) : ∀ (es : List (List Value × AV)) (ents : List MapEntry) (i : Nat), EntsR I ks agg es ents →
    ∃ r, (Instr.findAsking kt (mkV agg k) ents i).run P w = .ok r w ∧ (match r, afind k es i with | none, none => True | some (j, v), some (j', a) => j = j' ∧ VR I a v | _, _ => False)
  | [], [], i, _ => ⟨none, by simp [Instr.findAsking], by simp [afind]⟩
  | [], _ :: _, i, h => by have := h.1; simp at this
  | _ :: _, [], i, h => by have := h.1; simp at this
  | p :: es, e :: ents, i, h => by
    obtain ⟨⟨h1, h2, h3⟩, hr⟩ := h.cons
    have hq := hE w k p.1 hk h1
    simp only [Instr.findAsking, Sem.run_bind, h2, Op.equal, Op.maxDepth, hq, Result.andThen_ok, afind]
    cases hv : vEqs k p.1 with
    | true => exact ⟨some (i, e.val), by simp, ⟨rfl, h3⟩⟩
    | false => simpa using findAsking_run hE hk w es ents (i + 1) hr
theorem vEq_single {u v : Value} : vEqs [u] [v] = vEq u v := by simp [vEqs]
theorem findNow_run {I : Imm} {dd : TypeDesc} {ks : List CK} (hd : (dd = .string ∧ ks = [.str]) ∨ (dd = .bool ∧ ks = [.bool]) ∨ ∃ q, dd = .int q ∧ ks = [.int q]) {k : List Value} (hk : kOks ks k = true) : ∀ (es : List (List Value × AV)) (ents : List MapEntry) (i : Nat), EntsR I ks false es ents →
    ∃ r, Instr.findNow dd (mkV false k) ents i = some r ∧ (match r, afind k es i with | none, none => True | some (j, v), some (j', a) => j = j' ∧ VR I a v | _, _ => False)
  | [], [], i, _ => ⟨none, by simp [Instr.findNow], by simp [afind]⟩
  | [], _ :: _, i, h => by have := h.1; simp at this
  | _ :: _, [], i, h => by have := h.1; simp at this
  | p :: es, e :: ents, i, h => by
    obtain ⟨⟨h1, h2, h3⟩, hr⟩ := h.cons
    have hs : Instr.sameNow dd (mkV false k) e.key = some (vEqs k p.1) := by
      rw [h2]
      rcases hd with ⟨rfl, rfl⟩ | ⟨rfl, rfl⟩ | ⟨q, rfl, rfl⟩
      · obtain ⟨u, rfl, g1⟩ := kOks_one hk
        obtain ⟨v, e2, g2⟩ := kOks_one h1
        obtain ⟨x, rfl⟩ := kOk_str g1
        obtain ⟨y, rfl⟩ := kOk_str g2
        rw [e2, vEq_single]
        simp only [mkV, List.headD_cons, Instr.sameNow, vEq]
        rw [beq_toListBytes, toList_beq]
      · obtain ⟨u, rfl, g1⟩ := kOks_one hk
        obtain ⟨v, e2, g2⟩ := kOks_one h1
        obtain ⟨x, rfl⟩ := kOk_bool g1
        obtain ⟨y, rfl⟩ := kOk_bool g2
        rw [e2, vEq_single]
        simp only [mkV, List.headD_cons, Instr.sameNow, vEq]
        cases x <;> cases y <;> rfl
      · obtain ⟨u, rfl, g1⟩ := kOks_one hk
        obtain ⟨v, e2, g2⟩ := kOks_one h1
        obtain ⟨x, rfl⟩ := kOk_int g1
        obtain ⟨y, rfl⟩ := kOk_int g2
        rw [e2, vEq_single]
        simp only [mkV, List.headD_cons, Instr.sameNow, vEq, if_true]
        congr 1
    simp only [Instr.findNow, hs, afind]
    cases hv : vEqs k p.1 with
    | true => exact ⟨some (i, e.val), rfl, ⟨rfl, h3⟩⟩
    | false => exact findNow_run hd hk es ents (i + 1) hr
theorem findKey_run {I : Imm} {kt : TypeId} {agg : Bool} {ks : List CK} (hK : KeyF P kt agg ks) {k : List Value} (hk : kOks ks k = true) (w : World) (es : List (List Value × AV)) (ents : List MapEntry) (h : EntsR I ks agg es ents) :
    ∃ r, (Instr.findKey kt (mkV agg k) ents).run P w = .ok r w ∧ (match r, afind k es 0 with | none, none => True | some (j, v), some (j', a) => j = j' ∧ VR I a v | _, _ => False) := by
  obtain ⟨dd, hu, hd⟩ := hK.d
  rcases hd with ⟨rfl, hd⟩ | ⟨rfl, hd⟩
  · obtain ⟨r, h1, h2⟩ := findAsking_run hK.eq hk w es ents 0 h
    refine ⟨r, ?_, h2⟩
    rw [run_findKey_eq w (by rw [hu]; cases dd <;> simp [isAggD] at hd <;> rfl)]
    exact h1
  · obtain ⟨r, h1, h2⟩ := findNow_run hd hk es ents 0 h
    exact ⟨r, by simp [Instr.findKey, run_underlying hu, h1], h2⟩
theorem afind_spec {k : List Value} : ∀ {es : List (List Value × AV)} {i j : Nat} {a : AV}, afind k es i = some (j, a) → i ≤ j ∧ ∃ p, es[j - i]? = some p ∧ vEqs k p.1 = true ∧ p.2 = a
  | [], _, _, _, h => by simp [afind] at h
  | p :: r, i, j, a, h => by
    simp only [afind] at h
    split at h
    · rename_i hv
      simp only [Option.some.injEq, Prod.mk.injEq] at h
      obtain ⟨rfl, rfl⟩ := h
      exact ⟨Nat.le_refl _, p, by simp, hv, rfl⟩
    · obtain ⟨h1, q, h2, h3, h4⟩ := afind_spec h
      refine ⟨by omega, q, ?_, h3, h4⟩
      rw [show j - i = (j - (i + 1)) + 1 by omega, List.getElem?_cons_succ]
      exact h2
theorem aput_found {k : List Value} {v : AV} : ∀ {es : List (List Value × AV)} {i j : Nat} {a : AV}, afind k es i = some (j, a) → aput k v es = es.set (j - i) (k, v)
  | [], _, _, _, h => by simp [afind] at h
  | p :: r, i, j, a, h => by
    simp only [afind] at h
    simp only [aput]
    split at h
    · rename_i hv
      simp only [Option.some.injEq, Prod.mk.injEq] at h
      obtain ⟨rfl, rfl⟩ := h
      simp [hv]
    · rename_i hv
      have h1 := (afind_spec h).1
      rw [aput_found h, show j - i = (j - (i + 1)) + 1 by omega, List.set_cons_succ]
theorem aput_new {k : List Value} {v : AV} : ∀ {es : List (List Value × AV)} {i : Nat}, afind k es i = none → aput k v es = es ++ [(k, v)]
  | [], _, _ => rfl
  | p :: r, i, h => by
    simp only [afind] at h
    simp only [aput]
    split at h
    · cases h
    · rename_i hv
      rw [aput_new h]
      rfl
theorem vEqs_eq : ∀ {ks : List CK} {us vs : List Value}, kOks ks us = true → kOks ks vs = true → vEqs us vs = true → us = vs
  | [], [], [], _, _, _ => rfl
  | k :: ks, u :: us, v :: vs, h1, h2, h => by
    simp only [kOks, Bool.and_eq_true] at h1 h2
    simp only [vEqs, Bool.and_eq_true] at h
    have ih := vEqs_eq h1.2 h2.2 h.2
    subst ih
    congr 1
    cases k with
    | int q =>
      obtain ⟨x, rfl⟩ := kOk_int h1.1
      obtain ⟨y, rfl⟩ := kOk_int h2.1
      have := of_decide_eq_true h.1
      rw [this]
    | str =>
      obtain ⟨x, rfl⟩ := kOk_str h1.1
      obtain ⟨y, rfl⟩ := kOk_str h2.1
      have := of_decide_eq_true h.1
      rw [this]
    | bool =>
      obtain ⟨x, rfl⟩ := kOk_bool h1.1
      obtain ⟨y, rfl⟩ := kOk_bool h2.1
      have := of_decide_eq_true h.1
      rw [this]
  | [], _ :: _, _, h, _, _ => by simp [kOks] at h
  | [], [], _ :: _, _, h, _ => by simp [kOks] at h
  | _ :: _, [], _, h, _, _ => by simp [kOks] at h
  | _ :: _, _ :: _, [], _, h, _ => by simp [kOks] at h
theorem sameBits_kOk {k : CK} {v : Value} (h : kOk k v = true) (n : Nat) : Instr.sameBits n v v = true := by
  cases k with
  | int q => obtain ⟨x, rfl⟩ := kOk_int h; simp [Instr.sameBits]
  | str =>
    obtain ⟨x, rfl⟩ := kOk_str h
    simp only [Instr.sameBits, beq_toListBytes, toList_beq]; simp
  | bool => obtain ⟨x, rfl⟩ := kOk_bool h; simp [Instr.sameBits]
theorem sameBits_zip : ∀ {ks : List CK} {us : List Value} (n : Nat), kOks ks us = true → ((us.zip us).all fun (x, y) => Instr.sameBits n x y) = true
  | [], [], _, _ => rfl
  | k :: ks, u :: us, n, h => by
    simp only [kOks, Bool.and_eq_true] at h
    simp only [List.zip_cons_cons, List.all_cons, Bool.and_eq_true]
    exact ⟨sameBits_kOk h.1 n, sameBits_zip n h.2⟩
  | [], _ :: _, _, h => by simp [kOks] at h
  | _ :: _, [], _, h => by simp [kOks] at h
theorem sameBits_mkV {ks : List CK} {us : List Value} {agg : Bool} (hk : kOks ks us = true) (h1 : agg = false → ∃ k, ks = [k]) (n : Nat) : Instr.sameBits (n + 1) (mkV agg us) (mkV agg us) = true := by
  cases agg with
  | true =>
    simp only [mkV, Instr.sameBits, Bool.and_eq_true]
    exact ⟨by simp, by simpa using sameBits_zip n hk⟩
  | false =>
    obtain ⟨k, rfl⟩ := h1 rfl
    obtain ⟨u, rfl, g1⟩ := kOks_one hk
    simpa [mkV] using sameBits_kOk g1 (n + 1)
theorem keyStays {ks : List CK} {us : List Value} {agg : Bool} (hk : kOks ks us = true) (h1 : agg = false → ∃ k, ks = [k]) (w : World) : (Instr.keyThatStays (mkV agg us) (mkV agg us)).run P w = .ok (mkV agg us) w := by
  simp [Instr.keyThatStays, sameBits_mkV hk h1 9999]
end
def akey (agg : Bool) : AV → Option (List Value)
  | .lit v => match agg with
    | true => none
    | false => some [v]
  | .agg cs => match agg with
    | true => lits cs
    | false => none
  | _ => none
theorem akey_vr {I : Imm} {agg : Bool} {k : AV} {us : List Value} (h : akey agg k = some us) {v : Value} (hv : VR I k v) : v = mkV agg us := by
  cases k <;> cases agg <;> simp only [akey, reduceCtorEq] at h
  · simp only [Option.some.injEq] at h
    subst h
    exact VR.lit_inv hv
  · exact agg_lits h hv
section
variable {P : Program} {ρ : Option Nat} {Q : Exit → AS → Prop} {σ : AS} {o : Oper} {ops : Array Oper} {l : List Oper}
/-! ### make, store, look up -/
theorem MO_makeMap {t : TypeId} (ks : List CK) (agg : Bool) (ho : o.op = .makeMap t none) : MO P ρ o σ (fun u h' => ∃ b, σ.h b = none ∧ u = .mp b ∧ h' = σ.h.upd b (some (.map ks agg []))) := by
  intro g I a w hs
  refine wpIn_of_run' (w' := w.alloc (.map #[] 0)) (u := .map (some w.heap.size)) (by rw [ho]; simp) (by simp [execOp, ho, Instr.makeMap]) ⟨I, _, .mp w.heap.size, _, .refl _, rfl, .mp _, ?_, w.heap.size, h_new hs, rfl, rfl⟩
  exact (hs.alloc _).setObj _ _ hs.sz ⟨#[], 0, heap_alloc_new _ _, rfl, fun i p e h1 h2 => by simp at h1, mp_new hs⟩ (fun o e => by rw [h_new hs] at e; cases e)
theorem KeyF.one {kt : TypeId} {agg : Bool} {ks : List CK} (h : KeyF P kt agg ks) : agg = false → ∃ k, ks = [k] := by
  intro ha
  obtain ⟨dd, _, hd⟩ := h.d
  rcases hd with ⟨rfl, _⟩ | ⟨_, hd⟩
  · cases ha
  · rcases hd with ⟨_, rfl⟩ | ⟨_, rfl⟩ | ⟨q, _, rfl⟩ <;> exact ⟨_, rfl⟩
theorem mapUpdate_core {I : Imm} {g : G} {a : Act} {w : World} (hs : SR g I σ a w) {t kt et : TypeId} {b : Nat} {ks : List CK} {agg : Bool} {es : List (List Value × AV)} {k : List Value} {v : AV} {vv : Value} (ht : P.underlying t = some (.map kt et)) (hK : KeyF P kt agg ks)
    (hb : σ.h b = some (.map ks agg es)) (hk : kOks ks k = true) (hv : VR I v vv) :
    ∃ w', (Instr.mapUpdate t (.map (some b)) (mkV agg k) vv).run P w = .ok () w' ∧ SR g I (σ.setH (σ.h.upd b (some (.map ks agg (aput k v es))))) a w' := by
  obtain ⟨hbase, ents, clock, hw, hsz, hent, hmp⟩ := hs.wr.obj b _ hb
  have hR : EntsR I ks agg es ents.toList := ⟨by simpa using hsz, fun i p e h1 h2 => hent i p e h1 (by simpa using h2)⟩
  obtain ⟨r, hr, hm⟩ := findKey_run hK hk w es ents.toList hR
  have hck := hK.ck false w k hk
  have hget : (getObj b).run P w = .ok (.map ents clock) w := by simp [getObj, Sem.run, hw]
  have hset : ∀ ob, (setObj b ob).run P w = .ok () { w with heap := w.heap.setIfInBounds b ob } := by intro ob; simp [setObj, Sem.run, hw]
  have hlt : b < w.heap.size := (Array.getElem?_eq_some_iff.1 hw).1
  have fin : ∀ (ents' : Array MapEntry) (clock' : Nat), ents'.size = (aput k v es).length → (∀ (i : Nat) (p : List Value × AV) (e : MapEntry), (aput k v es)[i]? = some p → ents'[i]? = some e → kOks ks p.1 = true ∧ e.key = mkV agg p.1 ∧ VR I p.2 e.val) →
      SR g I (σ.setH (σ.h.upd b (some (.map ks agg (aput k v es))))) a { w with heap := w.heap.setIfInBounds b (.map ents' clock') } := by
    intro ents' clock' h1 h2
    have s1 := (hs.delObj b (fun o e => by rw [hb] at e; cases e; rfl)).setMapObj b hw (.map ents' clock') hbase (by simp [AS.setH]) hmp
    have s2 := s1.setObj b (.map ks agg (aput k v es)) hbase ⟨ents', clock', by simp [hlt], h1, h2, hmp⟩ (fun o e => by simp [AS.setH] at e)
    have e5 : ((σ.setH (σ.h.upd b none)).setH ((σ.setH (σ.h.upd b none)).h.upd b (some (.map ks agg (aput k v es))))) = σ.setH (σ.h.upd b (some (.map ks agg (aput k v es)))) := by
      simp only [AS.setH]
      congr 1
      funext k
      simp only [Heap.upd]
      split <;> rfl
    rw [e5] at s2
    exact s2
  cases hf : afind k es 0 with
  | none =>
    rw [hf] at hm
    have hr0 : r = none := by
      cases r with
      | none => rfl
      | some p => exact hm.elim
    subst hr0
    refine ⟨{ w with heap := w.heap.setIfInBounds b (.map (ents.push { key := mkV agg k, val := vv, born := clock }) (clock + 1)) }, ?_, fin _ _ ?_ ?_⟩
    · simp only [Instr.mapUpdate, Sem.run_bind, run_underlying ht, Result.andThen_ok, hget, hck, hr, hset]
    · rw [aput_new hf]; simp [hsz]
    · rw [aput_new hf]
      intro i p e h1 h2
      rw [Array.getElem?_push] at h2
      split at h2
      · rename_i hi
        simp only [Option.some.injEq] at h2
        subst h2
        have : p = (k, v) := by
          rw [hi, hsz] at h1; simpa using h1.symm
        subst this
        exact ⟨hk, rfl, hv⟩
      · rename_i hi
        have hlt2 : i < ents.size := (Array.getElem?_eq_some_iff.1 h2).1
        rw [List.getElem?_append_left (by omega)] at h1
        exact hent i p e h1 h2
  | some q =>
    obtain ⟨j, x⟩ := q
    rw [hf] at hm
    match r, hm with
    | some (j', y), hm =>
      obtain ⟨rfl, _⟩ := hm
      obtain ⟨_, p, hp1, hp2, hp3⟩ := afind_spec hf
      rw [Nat.sub_zero] at hp1
      have hjlt : j' < es.length := (List.getElem?_eq_some_iff.1 hp1).1
      have hjlt' : j' < ents.size := by omega
      obtain ⟨c1, c2, c3⟩ := hent j' p ents[j'] hp1 (Array.getElem?_eq_getElem hjlt')
      have hkp : k = p.1 := vEqs_eq hk c1 hp2
      have hstay : (Instr.keyThatStays (((ents[j']?).map (·.key)).getD (mkV agg k)) (mkV agg k)).run P w = .ok (mkV agg k) w := by
        rw [Array.getElem?_eq_getElem hjlt']
        simp only [Option.map_some, Option.getD_some, c2, ← hkp]
        exact keyStays hk hK.one w
      refine ⟨{ w with heap := w.heap.setIfInBounds b (.map (ents.modify j' fun e => { e with key := mkV agg k, val := vv }) clock) }, ?_, fin _ _ ?_ ?_⟩
      · simp only [Instr.mapUpdate, Sem.run_bind, run_underlying ht, Result.andThen_ok, hget, hck, hr, hstay, hset]
      · rw [aput_found hf]; simp [hsz]
      · rw [aput_found hf, Nat.sub_zero]
        intro i q e h1 h2
        rw [Array.getElem?_modify] at h2
        rw [List.getElem?_set] at h1
        by_cases hi : j' = i
        · subst hi
          rw [if_pos rfl, if_pos hjlt] at h1
          rw [if_pos rfl, Array.getElem?_eq_getElem hjlt'] at h2
          simp only [Option.some.injEq, Option.map_some] at h1 h2
          subst h1; subst h2
          exact ⟨hk, rfl, hv⟩
        · rw [if_neg hi] at h1 h2
          exact hent i q e h1 h2
theorem MO_mapUpdate {t kt et : TypeId} {m x y : Operand} {b : Nat} {ks : List CK} {agg : Bool} {es : List (List Value × AV)} {kv v : AV} {k : List Value} (ho : o.op = .mapUpdate t m x y ∨ o.op = .insert t m x y) (ht : P.underlying t = some (.map kt et)) (hK : KeyF P kt agg ks)
    (hm : ev σ.tm m = some (.mp b)) (hb : σ.h b = some (.map ks agg es)) (hx : ev σ.tm x = some kv) (hkv : akey agg kv = some k) (hk : kOks ks k = true) (hy : ev σ.tm y = some v) :
    MO P ρ o σ (fun u h' => u = .junk ∧ h' = σ.h.upd b (some (.map ks agg (aput k v es)))) := by
  intro g I a w hs
  have h1 := hs.ev hm
  generalize hu : a.eval m = p at h1
  cases h1 with
  | mp =>
    have h2 := akey_vr hkv (hs.ev hx)
    obtain ⟨w', hr, hs'⟩ := mapUpdate_core hs ht hK hb hk (hs.ev hy)
    refine wpIn_of_skip (w' := w') (by rcases ho with ho | ho <;> rw [ho] <;> simp) ?_ ⟨I, undef, .junk, _, .refl _, rfl, .junk _, hs', rfl, rfl⟩
    rcases ho with ho | ho <;> simp [execOp, ho, hu, h2, hr]
structure ZeroV (P : Program) (t : TypeId) (zv : AV) : Prop where
  z : ∃ i z, P.info? t = some i ∧ i.zero = some z ∧ ofConst z = zv
theorem lookup_core {I : Imm} {w : World} {t kt et : TypeId} {b : Nat} {ks : List CK} {agg : Bool} {es : List (List Value × AV)} {k : List Value} {zv : AV} {ents : Array MapEntry} {clock : Nat} {ok : Bool} (ht : P.underlying t = some (.map kt et)) (hK : KeyF P kt agg ks) (hz : ZeroV P et zv)
    (hw : w.heap[b]? = some (.map ents clock)) (hR : EntsR I ks agg es ents.toList) (hk : kOks ks k = true) :
    ∃ vv, (Instr.lookup t (.map (some b)) (mkV agg k) ok).run P w = .ok (if ok then .tuple #[vv, .bool (aget k es).isSome] else vv) w ∧ VR I ((aget k es).getD zv) vv := by
  obtain ⟨r, hr, hm⟩ := findKey_run hK hk w es ents.toList hR
  have hck := fun em => hK.ck em w k hk
  obtain ⟨i, z, hi, hz1, hz2⟩ := hz.z
  have hget : (getObj b).run P w = .ok (.map ents clock) w := by simp [getObj, Sem.run, hw]
  have hag := afind_aget k es 0
  cases hf : afind k es 0 with
  | none =>
    rw [hf] at hm hag
    have hr0 : r = none := by
      cases r with
      | none => rfl
      | some p => exact hm.elim
    subst hr0
    simp only [Option.map_none] at hag
    rw [← hag]
    refine ⟨z, ?_, by subst hz2; exact vr_ofConst I z⟩
    simp [Instr.lookup, run_underlying ht, hget, hck, hr, zeroValue, typeInfo, hi, hz1]
  | some q =>
    obtain ⟨j, x⟩ := q
    rw [hf] at hm hag
    match r, hm with
    | some (j', y), hm =>
      obtain ⟨rfl, hy⟩ := hm
      simp only [Option.map_some] at hag
      rw [← hag]
      refine ⟨y, ?_, hy⟩
      simp [Instr.lookup, run_underlying ht, hget, hck, hr]
def alook (ok : Bool) (r : Option AV) (zv : AV) : AV := match ok with
  | true => .tup [r.getD zv, .lit (.bool r.isSome)]
  | false => r.getD zv
theorem vr_alook {I : Imm} {ok : Bool} {r : Option AV} {zv : AV} {vv : Value} (h : VR I (r.getD zv) vv) : VR I (alook ok r zv) (if ok then .tuple #[vv, .bool r.isSome] else vv) := by
  cases ok with
  | false => exact h
  | true =>
    refine .tup _ _ rfl (fun i a hi => ?_)
    match i, hi with
    | 0, hi => simp at hi; subst hi; exact h
    | 1, hi => simp at hi; subst hi; exact .lit _ rfl
    | i + 2, hi => simp at hi
theorem PO_lookup {t kt et : TypeId} {m x : Operand} {b : Nat} {ok : Bool} {ks : List CK} {agg : Bool} {es : List (List Value × AV)} {kv zv : AV} {k : List Value} (ho : o.op = .lookup t m x ok) (ht : P.underlying t = some (.map kt et)) (hK : KeyF P kt agg ks) (hz : ZeroV P et zv)
    (hm : ev σ.tm m = some (.mp b)) (hb : σ.h b = some (.map ks agg es)) (hx : ev σ.tm x = some kv) (hkv : akey agg kv = some k) (hk : kOks ks k = true) : PO P ρ o σ (alook ok (aget k es) zv) := by
  refine PO_of (by rw [ho]; simp) fun g I a w hs => ?_
  have h1 := hs.ev hm
  generalize hu : a.eval m = p at h1
  cases h1 with
  | mp =>
    have h2 := akey_vr hkv (hs.ev hx)
    obtain ⟨hbase, ents, clock, hw, hsz, hent, hmp⟩ := hs.wr.obj b _ hb
    obtain ⟨vv, hr, hv⟩ := lookup_core (ok := ok) ht hK hz hw ⟨by simpa using hsz, fun i p e h1 h2 => hent i p e h1 (by simpa using h2)⟩ hk
    exact ⟨_, by simp only [execOp, ho, hu, h2, Sem.run_bind, hr]; rfl, vr_alook hv⟩
theorem PO_lookup_im {t kt et : TypeId} {m x : Operand} {ok : Bool} {ks : List CK} {agg : Bool} {es : List (List Value × AV)} {kv zv : AV} {k : List Value} (ho : o.op = .lookup t m x ok) (ht : P.underlying t = some (.map kt et)) (hK : KeyF P kt agg ks) (hz : ZeroV P et zv)
    (hm : ev σ.tm m = some (.im ks agg es)) (hx : ev σ.tm x = some kv) (hkv : akey agg kv = some k) (hk : kOks ks k = true) : PO P ρ o σ (alook ok (aget k es) zv) := by
  refine PO_of (by rw [ho]; simp) fun g I a w hs => ?_
  have h1 := hs.ev hm
  generalize hu : a.eval m = p at h1
  cases h1 with
  | im _ _ _ b ents hb hl hkk hvv =>
    have h2 := akey_vr hkv (hs.ev hx)
    obtain ⟨clock, hw⟩ := hs.wr.map b ents hb
    obtain ⟨vv, hr, hv⟩ := lookup_core (ok := ok) ht hK hz hw ⟨by simpa using hl, fun i p e h1 h2 => ⟨(hkk i p e h1 (by simpa using h2)).1, (hkk i p e h1 (by simpa using h2)).2, hvv i p e h1 (by simpa using h2)⟩⟩ hk
    exact ⟨_, by simp only [execOp, ho, hu, h2, Sem.run_bind, hr]; rfl, vr_alook hv⟩
/-! ### Slicing -/
def bnd (tm : List (Nat × AV)) (d : Int) : Option Operand → Option Int
  | none => some d
  | some x => match ev tm x with
    | some (.lit (.int _ i)) => some i
    | _ => none
theorem bound_run {g : G} {I : Imm} {a : Act} {w : World} (hs : SR g I σ a w) {x : Operand} {d i : Int} {y : Nat} (h : bnd σ.tm d (some x) = some i) (h0 : 0 ≤ i) (h1 : i ≤ y) (c : BoundsCode) : (Instr.sliceBound (a.eval x) y c).run P w = .ok i.toNat w := by
  simp only [bnd] at h
  split at h
  · rename_i k j hx
    simp only [Option.some.injEq] at h
    subst h
    have := VR.lit_inv (hs.ev hx)
    simp [Instr.sliceBound, this, asIntOf, h0, h1]
  · cases h
theorem bounds_run {g : G} {I : Imm} {a : Act} {w : World} (hs : SR g I σ a w) {lo hi : Option Operand} {l h : Int} (isS : Bool) (len cap : Nat) (hl : bnd σ.tm 0 lo = some l) (hh : bnd σ.tm len hi = some h) (h0 : 0 ≤ l) (h1 : l ≤ h) (h2 : h ≤ cap) :
    (Instr.sliceBounds isS len cap (lo.map a.eval) (hi.map a.eval) none).run P w = .ok (l.toNat, h.toNat, cap) w := by
  have e1 : (match hi.map a.eval with | some v => Instr.sliceBound v cap (if isS then .sliceAcap else .sliceAlen) | none => pure len : Sem Nat).run P w = .ok h.toNat w := by
    cases hi with
    | none => simp only [bnd, Option.some.injEq] at hh; subst hh; simp
    | some x => simpa using bound_run hs hh (by omega) h2 _
  have e2 : (match lo.map a.eval with | some v => Instr.sliceBound v h.toNat .sliceB | none => pure 0 : Sem Nat).run P w = .ok l.toNat w := by
    cases lo with
    | none => simp only [bnd, Option.some.injEq] at hl; subst hl; simp
    | some x => simpa using bound_run hs hl h0 (by omega) _
  cases hi with
  | none =>
    simp only [bnd, Option.some.injEq] at hh
    subst hh
    cases lo with
    | none => simp only [bnd, Option.some.injEq] at hl; subst hl; simp [Instr.sliceBounds]
    | some y =>
      have := bound_run (P := P) hs hl h0 (show l ≤ ((len : Nat) : Int) from h1) .sliceB
      simp [Instr.sliceBounds, this]
  | some x =>
    have h3 := bound_run (P := P) hs hh (by omega) h2 (if isS then .sliceAcap else .sliceAlen)
    cases lo with
    | none => simp only [bnd, Option.some.injEq] at hl; subst hl; simp [Instr.sliceBounds, h3]
    | some y =>
      have h4 := bound_run (P := P) hs hl h0 (show l ≤ ((h.toNat : Nat) : Int) by omega) .sliceB
      simp [Instr.sliceBounds, h3, h4]
theorem PO_slice_str {t : TypeId} {x : Operand} {lo hi : Option Operand} {s : ByteArray} {l h : Int} (ho : o.op = .slice t x lo hi none) (ht : P.underlying t = some .string) (hx : ev σ.tm x = some (.lit (.string s)))
    (hl : bnd σ.tm 0 lo = some l) (hh : bnd σ.tm s.size hi = some h) (h0 : 0 ≤ l) (h1 : l ≤ h) (h2 : h ≤ s.size) : PO P ρ o σ (.lit (.string (s.extract l.toNat h.toNat))) := by
  refine PO_of (by rw [ho]; simp) fun g I a w hs => ⟨.string (s.extract l.toNat h.toNat), ?_, .lit _ rfl⟩
  have h1' := VR.lit_inv (hs.ev hx)
  have hb := bounds_run (P := P) hs false s.size s.size hl hh h0 h1 h2
  simp only [execOp, ho, h1', Instr.sliceAt, Instr.slice, Sem.run_bind, run_underlying ht, Result.andThen_ok, hb]
  simp [hb]
theorem take_drop_get {es : List (List AV)} {l h i : Nat} {e : List AV} (hi : ((es.take h).drop l)[i]? = some e) : es[l + i]? = some e := by
  rw [List.getElem?_drop, List.getElem?_take] at hi
  split at hi
  · exact hi
  · cases hi
theorem PO_slice_sl {t e : TypeId} {S : Nat} {d : TypeDesc} {x : Operand} {lo hi : Option Operand} {own : Own} {es : List (List AV)} {l h : Int} (ho : o.op = .slice t x lo hi none) (ht : P.underlying t = some (.slice e)) (he : TyF P e d S) (hx : ev σ.tm x = some (.sl own S es))
    (hl : bnd σ.tm 0 lo = some l) (hh : bnd σ.tm es.length hi = some h) (h0 : 0 ≤ l) (h1 : l ≤ h) (h2 : h ≤ es.length) : PO P ρ o σ (.sl .any S ((es.take h.toNat).drop l.toNat)) := by
  refine PO_of (by rw [ho]; simp) fun g I a w hs => ?_
  have hv := hs.ev hx
  have hlen : ((es.take h.toNat).drop l.toNat).length = h.toNat - l.toNat := by simp; omega
  generalize hu : a.eval x = p at hv
  cases hv with
  | slnil =>
    simp only [List.length_nil] at h2 hh
    obtain rfl : h = 0 := by omega
    obtain rfl : l = 0 := by omega
    have hb := bounds_run (P := P) hs true 0 0 hl hh h0 h1 (by omega)
    refine ⟨.slice none 0 0, ?_, by simpa using VR.slnil .any S (.inr rfl)⟩
    simp only [execOp, ho, hu, Instr.sliceAt, Instr.slice, Sem.run_bind, run_underlying ht, Result.andThen_ok, hb, run_sizeOf' he]
    simp [hb, run_sizeOf' he]
  | sl _ _ _ ad cap u how hul hcl hc hvv =>
    have hcap : es.length ≤ cap := how.2.1
    have hb := bounds_run (P := P) hs true es.length cap hl hh h0 h1 (by omega)
    refine ⟨.slice (some (if cap = l.toNat then ad else ad.add (l.toNat * S))) (h.toNat - l.toNat) (cap - l.toNat), ?_, ?_⟩
    · simp only [execOp, ho, hu, Instr.sliceAt, Instr.slice, Sem.run_bind, run_underlying ht, Result.andThen_ok, Option.map_none, hb, run_sizeOf' he, Sem.run_pure]
      by_cases hc1 : cap = l.toNat
      · rw [if_pos hc1, if_pos hc1]
      · rw [if_neg hc1, if_neg hc1]; rfl
    · rw [← hlen]
      by_cases hcl' : cap = l.toNat
      · have : (es.take h.toNat).drop l.toNat = [] := by
          apply List.eq_nil_of_length_eq_zero; rw [hlen]; omega
        rw [this, if_pos hcl']
        exact .sl _ _ _ _ _ u ⟨.inl rfl, by simp, trivial⟩ (by simp) (by simp) (by simp) (by simp)
      · rw [if_neg hcl']
        by_cases hz : h.toNat - l.toNat = 0
        · have : (es.take h.toNat).drop l.toNat = [] := List.eq_nil_of_length_eq_zero (by rw [hlen]; exact hz)
          rw [this]
          exact .sl _ _ _ _ _ u ⟨.inl rfl, by simp, trivial⟩ (by simp) (by simp) (by simp) (by simp)
        rw [add_plain ad (how.spot (by omega))]
        refine .sl _ _ _ _ _ (fun i j => u (l.toNat + i) j) ⟨.inr rfl, by rw [hlen]; omega, trivial⟩ (fun e' he' => hul e' (List.mem_of_mem_take (List.mem_of_mem_drop he'))) (fun e' he' => hcl e' (List.mem_of_mem_take (List.mem_of_mem_drop he'))) (fun i e' j b k1 k2 => ?_)
          (fun i e' j b k1 k2 => hvv _ _ _ _ (take_drop_get k1) k2)
        have := hc _ _ _ _ (take_drop_get k1) k2
        rw [← this]
        congr 1
        simp only [Nat.add_mul]; omega
theorem PO_slice_00 {t e : TypeId} {S : Nat} {d : TypeDesc} {x y z : Operand} {own : Own} {es : List (List AV)} {k k' : IntKind} (ho : o.op = .slice t x none (some y) (some z)) (ht : P.underlying t = some (.slice e)) (he : TyF P e d S) (hx : ev σ.tm x = some (.sl own S es))
    (hy : ev σ.tm y = some (.lit (.int k 0))) (hz : ev σ.tm z = some (.lit (.int k' 0))) (hne : es ≠ []) : PO P ρ o σ (.sl .full S []) := by
  refine PO_of (by rw [ho]; simp) fun g I a w hs => ?_
  have hv := hs.ev hx
  have e1 := VR.lit_inv (hs.ev hy)
  have e2 := VR.lit_inv (hs.ev hz)
  generalize hu : a.eval x = p at hv
  cases hv with
  | slnil => exact absurd rfl hne
  | sl _ _ _ ad cap u how hul hcl hc hvv =>
    have hcap : es.length ≤ cap := how.2.1
    have hb : (Instr.sliceBounds true es.length cap none (some (a.eval y)) (some (a.eval z))).run P w = .ok (0, 0, 0) w := by
      simp [Instr.sliceBounds, Instr.sliceBound, e1, e2, asIntOf]
    refine ⟨.slice (some ad) 0 0, ?_, .sl _ _ [] ad 0 u ⟨.inl rfl, Nat.le_refl _, rfl⟩ (by simp) (by simp) (by simp) (by simp)⟩
    simp only [execOp, ho, hu, Instr.sliceAt, Instr.slice, Sem.run_bind, run_underlying ht, Result.andThen_ok, run_sizeOf' he, Option.map_none, Option.map_some, hb]
    simp
theorem PO_slice_arr {t e : TypeId} {N S : Nat} {d : TypeDesc} {x : Operand} {cs : List AV} (ho : o.op = .slice t x none none none) (ht : P.underlying t = some (.array N e)) (he : TyF P e d S) (hx : ev σ.tm x = some (.ip cs)) (hlen : cs.length = N * S) : PO P ρ o σ (.sl .full S (chunk S N cs)) := by
  refine PO_of (by rw [ho]; simp) fun g I a w hs => ?_
  have hv := hs.ev hx
  generalize hu : a.eval x = p at hv
  cases hv with
  | ip _ ad u hsp hcl hc hvv =>
    have hb : (Instr.sliceBounds false N N none none none).run P w = .ok (0, N, N) w := by simp [Instr.sliceBounds]
    refine ⟨.slice (some ad) N N, ?_, ?_⟩
    · simp only [execOp, ho, hu, Instr.sliceAt, Instr.sureAddr, Sem.run_bind, run_underlying ht, Result.andThen_ok, run_sizeOf' he, Option.map_none, hb, Sem.run_pure]
      have ha0 : ad.add (0 * S) = ad := by simp [Addr.add]
      simp [ha0]
      intro; simp [Addr.add]
    · have hl := chunk_length S N cs
      have key : ∀ i e j a, (chunk S N cs)[i]? = some e → e[j]? = some a → cs[i * S + j]? = some a := by
        intro i e j a h1 h2
        have := chunk_get S N cs i e h1
        subst this
        rw [List.getElem?_take] at h2
        split at h2
        · rwa [List.getElem?_drop] at h2
        · cases h2
      have h : VR I (.sl .full S (chunk S N cs)) (.slice (some ad) (chunk S N cs).length N) := by
        refine .sl _ _ _ _ _ (fun i j => u (i * S + j)) ⟨.inr hsp, by omega, hl.symm⟩ ?_ ?_ ?_ ?_
        · intro e he
          obtain ⟨i, hi, rfl⟩ := List.mem_iff_getElem.1 he
          have := chunk_get S N cs i _ (List.getElem?_eq_getElem hi)
          rw [this, List.length_take, List.length_drop]
          have : (i + 1) * S ≤ N * S := Nat.mul_le_mul_right _ (by omega)
          rw [Nat.add_mul, Nat.one_mul] at this
          omega
        · intro e he a ha
          obtain ⟨i, hi, rfl⟩ := List.mem_iff_getElem.1 he
          obtain ⟨j, hj, rfl⟩ := List.mem_iff_getElem.1 ha
          exact hcl _ (List.mem_of_getElem? (key i _ j _ (List.getElem?_eq_getElem hi) (List.getElem?_eq_getElem hj)))
        · intro i e j a h1 h2
          have := hc _ _ (key i e j a h1 h2)
          rw [← Nat.add_assoc] at this; exact this
        · intro i e j a h1 h2
          exact hvv _ _ (key i e j a h1 h2)
      rwa [hl] at h
end
end Go.AM
end
