/- A part of the proof: walks of the code and laws that they use (Am9). Conditions: as each theorem names them. -/
import Derived.RangeFuncNested
import Derived.Test.YtdognapppnfpiaaGreatDoorC5
section
set_option linter.unusedVariables false
set_option linter.unusedSimpArgs false
namespace Go.AM
open Go.RowKit
def ARes (base : Nat) (I : Imm) (h : Heap) (w : World) (R : AV → Heap → Prop) (e : Ending) (w' : World) : Prop :=
  ∃ u, e = .returned u ∧ ∃ I' a h', I.le I' ∧ WR base I' h' w' ∧ VR I' a u ∧ Blw base w w' ∧ LockKept h h' ∧ R a h'
def Inv (P : Program) (fv : Value) (vs : Array Value) (w : World) (R : Ending → World → Prop) : Prop :=
  ∃ d, (∀ w, (Deferred.ofValue fv vs).run P w = .ok d w) ∧ match (invoke d.target d.args).run P w with
    | .ok (.enter f args) w' => CallsIn Fence.wide 0 P f args w' R
    | .ok (.round l f tmps assign body) w' => RoundIn Fence.wide 0 P l f tmps assign body w' R
    | .ok (.value v) w' => R (.returned v) w'
    | _ => False
def AFn (P : Program) (f : AV) (args : List AV) (h : Heap) (R : AV → Heap → Prop) : Prop :=
  ∀ base I w fv vs, base ≤ w.heap.size → WR base I h w → VR I f fv → VRs I args vs → Inv P fv vs w (ARes base I h w R)
theorem AFn.mono {P : Program} {f : AV} {args : List AV} {h : Heap} {R R' : AV → Heap → Prop} (k : AFn P f args h R) (hr : ∀ a h', R a h' → R' a h') : AFn P f args h R' := by
  intro base I w fv vs h0 hw hf hv
  obtain ⟨d, h1, h2⟩ := k base I w fv vs h0 hw hf hv
  refine ⟨d, h1, ?_⟩
  have hm : ∀ e w', ARes base I h w R e w' → ARes base I h w R' e w' := fun e w' ⟨u, e1, I', a, h', k1, k2, k3, k4, k5, k6⟩ => ⟨u, e1, I', a, h', k1, k2, k3, k4, k5, hr _ _ k6⟩
  split at h2
  · exact h2.mono hm
  · exact h2.mono hm
  · exact hm _ _ h2
  · exact h2.elim
def PFn (P : Program) (f : AV) (args : List AV) (v : AV) : Prop := ∀ h, AFn P f args h (fun a h' => a = v ∧ h.le h')
def oargs (tm : List (Nat × AV)) : List Operand → Option (List AV)
  | [] => some []
  | x :: r => match ev tm x, oargs tm r with
    | some v, some vs => some (v :: vs)
    | _, _ => none
theorem oargs_vr {g : G} {I : Imm} {σ : AS} {a : Act} {w : World} (hs : SR g I σ a w) : ∀ (xs : List Operand) (vs : List AV), oargs σ.tm xs = some vs →
    xs.length = vs.length ∧ ∀ (i : Nat) (v : AV), vs[i]? = some v → ∃ x, xs[i]? = some x ∧ VR I v (a.eval x) := by
  intro xs
  induction xs with
  | nil => intro vs h; simp only [oargs, Option.some.injEq] at h; subst h; simp
  | cons x xs ih =>
    intro vs h
    simp only [oargs] at h
    split at h
    · rename_i v ws hv hws
      simp only [Option.some.injEq] at h
      subst h
      obtain ⟨h1, h2⟩ := ih ws hws
      refine ⟨by simpa using h1, fun j u hu => ?_⟩
      cases j with
      | zero => simp only [List.getElem?_cons_zero, Option.some.injEq] at hu; subst hu; exact ⟨x, rfl, hs.ev hv⟩
      | succ j => simpa using h2 j u (by simpa using hu)
    · cases h
theorem oargs_VRs {g : G} {I : Imm} {σ : AS} {a : Act} {w : World} (hs : SR g I σ a w) {xs : Array Operand} {vs : List AV} (h : oargs σ.tm xs.toList = some vs) : VRs I vs (xs.map a.eval) := by
  obtain ⟨h1, h2⟩ := oargs_vr hs _ _ h
  refine ⟨by simpa using h1, fun i v hv => ?_⟩
  obtain ⟨x, hx, hr⟩ := h2 i v hv
  simp at hx
  simp [Array.getD_eq_getD_getElem?, hx, hr]
section
variable {P : Program} {ρ : Option Nat} {Q : Exit → AS → Prop} {σ : AS} {o : Oper} {ops : Array Oper} {l : List Oper}
theorem SR.call {g : G} {I I' : Imm} {a : Act} {w w' : World} {h' : Heap} (hs : SR g I σ a w) (hle : I.le I') (hw : WR g.base I' h' w') (hb : Blw g.base w w') (hm : LockKept σ.h h') : SR g I' (σ.setH h') a w' :=
  ⟨hs.le.trans hle, hs.below.trans hb, hs.base, hw, hs.size, fun k v e => (hs.slot k v e).mono hle, ⟨hs.marks.defs, hs.marks.nodup, fun r hr => (by
    obtain ⟨o', e, s⟩ := hm r _ (hs.marks.here r hr) rfl
    exact e.trans (congrArg some (AObj.sim_mark s))), hs.marks.keep.trans hm, hs.marks.apart⟩⟩
theorem MO_call {f : Operand} {xs : Array Operand} {ts : Array TypeId} {fv : AV} {vs : List AV} {R : AV → Heap → Prop} (ho : o.op = .call { callee := .value f, args := xs, argTypes := ts }) (hf : ev σ.tm f = some fv) (hx : oargs σ.tm xs.toList = some vs)
    (h : AFn P fv vs σ.h R) : MO P ρ o σ R := by
  intro g I a w hs
  obtain ⟨d, h1, h2⟩ := h g.base I w _ _ hs.sz hs.wr (hs.ev hf) (oargs_VRs hs hx)
  refine ⟨fun _ _ => trivial, ?_⟩
  rw [Oper.semAt_eq _ _ _ (by rw [ho]; simp)]
  have hrun : (execOp a.eval o).run P w = (invoke d.target d.args).run P w := by
    simp [execOp, ho, resolve, h1]
  rw [hrun]
  have hm : ∀ e w', ARes g.base I σ.h w R e w' → ∃ u, e = .returned u ∧ ∃ I' v h', I.le I' ∧ VR I' v u ∧ SR g I' (σ.setH h') a w' ∧ R v h' := by
    rintro e w' ⟨u, e1, I', v, h', k1, k2, k3, k4, k5, k6⟩
    exact ⟨u, e1, I', v, h', k1, k3, hs.call k1 k2 k4 k5, k6⟩
  split at h2
  · rename_i f args w' heq
    rw [heq]
    refine ⟨fun h => by simp [WF, Fence.wide] at h, ?_⟩
    have h3 : CallsIn (WF ρ) (0 - 1) P f args w' _ := h2
    refine h3.mono ?_
    intro e w'' hR
    obtain ⟨u, rfl, I', v, h', k1, k2, k3, k4⟩ := hm e w'' hR
    exact ⟨I', u, v, h', k1, rfl, k2, k3, k4⟩
  · rename_i l f tmps assign body w' heq
    rw [heq]
    refine ⟨fun h => by simp [WF, Fence.wide] at h, ?_⟩
    have h3 : RoundIn (WF ρ) (0 - 1) P l f tmps assign body w' _ := h2
    refine h3.mono ?_
    intro e w'' hR
    obtain ⟨u, rfl, I', v, h', k1, k2, k3, k4⟩ := hm e w'' hR
    exact ⟨I', u, v, h', k1, rfl, k2, k3, k4⟩
  · rename_i v w' heq
    rw [heq]
    obtain ⟨u, e1, I', v', h', k1, k2, k3, k4⟩ := hm _ _ h2
    injection e1 with e1
    subst e1
    exact ⟨I', v, v', h', k1, rfl, k2, k3, k4⟩
  · exact h2.elim
theorem MO.mono {R R' : AV → Heap → Prop} (h : MO P ρ o σ R) (hr : ∀ a h', R a h' → R' a h') : MO P ρ o σ R' := fun g I a w hs =>
  wpIn_oper_mono (h g I a w hs) (fun a' w' ⟨I', u, v, h', k1, k2, k3, k4, k5⟩ => ⟨I', u, v, h', k1, k2, k3, k4, hr _ _ k5⟩) fun _ _ _ h => h
theorem PO_call {f : Operand} {xs : Array Operand} {ts : Array TypeId} {fv : AV} {vs : List AV} {v : AV} (ho : o.op = .call { callee := .value f, args := xs, argTypes := ts }) (hf : ev σ.tm f = some fv) (hx : oargs σ.tm xs.toList = some vs)
    (h : PFn P fv vs v) : PO P ρ o σ v := by
  intro g I a w hs
  refine wpIn_oper_mono (MO_call (ρ := ρ) ho hf hx (h σ.h) g I a w hs) ?_ fun _ _ _ h => h
  rintro a' w' ⟨I', u, v', h', k1, k2, k3, k4, rfl, k5⟩
  refine ⟨I', u, k1, k2, k3, ?_⟩
  exact ⟨k4.le, k4.below, k4.base, ⟨k4.wr.cell, k4.wr.map, fun b o e => k4.wr.obj b o (k5 b o e), k4.wr.capLt⟩, hs.size, k4.slot, hs.marks⟩
end
/-! ### A function's contract, of its body -/
def ares (fn : Func) (σ : AS) : Option AV :=
  match fn.results.toList with
  | [] => some (.tup [])
  | [.tmp t] => look σ.tm t
  | rs => (go rs).map AV.tup
where
  go : List ResultVar → Option (List AV)
  | [] => some []
  | .tmp t :: r => match look σ.tm t, go r with
    | some v, some vs => some (v :: vs)
    | _, _ => none
  | .cell _ _ :: _ => none
def resOne (tmps : Array Value) : ResultVar → Sem Value
  | .tmp t => pure (tmps.getD t undef)
  | .cell a t => do loadVar t (← asAddr (tmps.getD a undef))
theorem results_eq (fn : Func) (tmps : Array Value) : results fn tmps = (do
    let vs ← fn.results.mapM (resOne tmps)
    pure (if h : vs.size = 1 then vs[0] else .tuple vs)) := by
  unfold results
  congr 1
theorem ares_go {g : G} {I : Imm} {σ : AS} {a : Act} {w : World} (hs : SR g I σ a w) (P : Program) : ∀ (rs : List ResultVar) (vs : List AV), ares.go σ rs = some vs →
    ∃ us : List Value, (∀ w', (rs.mapM (resOne a.tmps)).run P w' = .ok us w') ∧ us.length = vs.length ∧ vs.length = rs.length ∧ ∀ (i : Nat) (v : AV) (u : Value), vs[i]? = some v → us[i]? = some u → VR I v u
  | [], vs, h => by
    simp only [ares.go, Option.some.injEq] at h
    subst h
    exact ⟨[], by simp, rfl, rfl, by simp⟩
  | .cell _ _ :: _, vs, h => by simp [ares.go] at h
  | .tmp t :: r, vs, h => by
    simp only [ares.go] at h
    split at h
    · rename_i v ws hv hws
      simp only [Option.some.injEq] at h
      subst h
      obtain ⟨us, h1, h2, h2', h3⟩ := ares_go hs P r ws hws
      refine ⟨a.tmps.getD t undef :: us, fun w' => ?_, by simpa using h2, by simpa using h2', ?_⟩
      · simp only [List.mapM_cons, Sem.run_bind, resOne, Sem.run_pure, Result.andThen_ok, h1]
      · intro i v' u' e1 e2
        cases i with
        | zero =>
          simp only [List.getElem?_cons_zero, Option.some.injEq] at e1 e2
          subst e1; subst e2
          exact hs.slot t _ hv
        | succ i => exact h3 i v' u' (by simpa using e1) (by simpa using e2)
    · cases h
theorem run_ares {g : G} {I : Imm} {σ : AS} {a : Act} {w : World} (hs : SR g I σ a w) (P : Program) {fn : Func} {v : AV} (h : ares fn σ = some v) : ∃ u, (∀ w', (results fn a.tmps).run P w' = .ok u w') ∧ VR I v u := by
  have key : ∀ vs, ares.go σ fn.results.toList = some vs → ∃ us : Array Value, (∀ w', (fn.results.mapM (resOne a.tmps)).run P w' = .ok us w') ∧ us.size = vs.length ∧ vs.length = fn.results.toList.length ∧ ∀ (i : Nat) (v : AV), vs[i]? = some v → VR I v (us.getD i default) := by
    intro vs hvs
    obtain ⟨us, h1, h2, h2', h3⟩ := ares_go hs P _ vs hvs
    refine ⟨us.toArray, fun w' => ?_, by simpa using h2, h2', fun i v hv => ?_⟩
    · rw [Array.mapM_eq_mapM_toList]
      simp only [Sem.run_map, h1, Result.andThen_ok]
    · have hlt : i < us.length := by rw [h2]; exact (List.getElem?_eq_some_iff.1 hv).1
      have := h3 i v _ hv (List.getElem?_eq_getElem hlt)
      simpa [Array.getD_eq_getD_getElem?, hlt] using this
  have fin : ∀ (vs : List AV), ares.go σ fn.results.toList = some vs → vs.length ≠ 1 → v = .tup vs → ∃ u, (∀ w', (results fn a.tmps).run P w' = .ok u w') ∧ VR I v u := by
    intro vs hgo h1 hv
    subst hv
    obtain ⟨us, k1, k2, _, k3⟩ := key vs hgo
    refine ⟨.tuple us, fun w' => ?_, .tup _ _ k2 k3⟩
    rw [results_eq, Sem.run_bind, k1]
    have : us.size ≠ 1 := by omega
    simp [this]
  unfold ares at h
  split at h
  · rename_i he
    simp only [Option.some.injEq] at h
    exact fin [] (by rw [he]; rfl) (by simp) h.symm
  · rename_i t he
    obtain ⟨us, h1, h2, _, h3⟩ := key [v] (by rw [he]; simp [ares.go, h])
    refine ⟨us.getD 0 default, fun w' => ?_, h3 0 v rfl⟩
    rw [results_eq, Sem.run_bind, h1]
    simp only [List.length_cons, List.length_nil] at h2
    simp [h2, Array.getD_eq_getD_getElem?, Array.getElem?_eq_getElem (show 0 < us.size by omega)]
  · rename_i hne1 hne2
    simp only [Option.map_eq_some_iff] at h
    obtain ⟨vs, hgo, hv⟩ := h
    refine fin vs hgo ?_ hv.symm
    intro h1
    obtain ⟨us, _, _, k2, _⟩ := key vs hgo
    match hrs : fn.results.toList with
    | [] => exact hne1 hrs
    | [.tmp t] => exact hne2 t hrs
    | [.cell c t] => rw [hrs] at hgo; simp [ares.go] at hgo
    | x :: y :: r => rw [hrs] at k2; simp at k2; omega
def argTm : Nat → List AV → List (Nat × AV)
  | _, [] => []
  | k, v :: r => (k, v) :: argTm (k + 1) r
theorem look_argTm : ∀ (vs : List AV) (k i : Nat) (v : AV), look (argTm k vs) i = some v → k ≤ i ∧ vs[i - k]? = some v
  | [], _, _, _, h => by cases h
  | x :: r, k, i, v, h => by
    simp only [argTm, look_cons] at h
    split at h
    · rename_i hk
      subst hk
      simp only [Option.some.injEq] at h
      subst h
      simp
    · obtain ⟨h1, h2⟩ := look_argTm r (k + 1) i v h
      refine ⟨by omega, ?_⟩
      rw [show i - k = (i - (k + 1)) + 1 by omega, List.getElem?_cons_succ]
      exact h2
def retQ (fn : Func) (h : Heap) (R : AV → Heap → Prop) : Exit → AS → Prop
  | .normal, σ | .ret, σ => ∃ v, ares fn σ = some v ∧ σ.h0 = h ∧ ∀ h', (∀ b o, h' b = some o ↔ σ.h b = some o ∧ b ∉ σ.ms) → R v h'
  | _, _ => False
theorem leavesM {P : Program} {F : Fence} {fn : Func} {tmps : Array Value} {R : Ending → World → Prop} {v : Value} (hv : ∀ w', (results fn tmps).run P w' = .ok v w') : ∀ (ms : List Nat) (w : World), ms.Nodup → (∀ r ∈ ms, w.heap[r]? = some (.deferred (some []))) →
    (∀ w', w'.heap.size = w.heap.size → (∀ k, k ∉ ms → w'.heap[k]? = w.heap[k]?) → w'.os = w.os → w'.tape = w.tape → (w'.output = w.output ∧ w'.drawn = w.drawn) → (∀ b o, w'.cell? ⟨b, o, none⟩ = w.cell? ⟨b, o, none⟩) → R (.returned v) w') →
    LeavesInM F 0 P fn tmps R (ms.map fun r => { target := .collected r, args := #[] }) .returning w
  | [], w, _, _, hk => by
    exact ⟨v, hv w, hk w rfl (fun _ _ => rfl) rfl rfl ⟨rfl, rfl⟩ (fun _ _ => rfl)⟩
  | r :: ms, w, hn, hm, hk => by
    have hr := hm r (List.mem_cons_self ..)
    have hlt : r < w.heap.size := (Array.getElem?_eq_some_iff.1 hr).1
    refine ⟨by simp, .inl ⟨r, _, rfl, run_takeDeferred hr, ?_⟩⟩
    have hoth : ∀ (w2 : World) (k : Nat), k ≠ r → (w2.heap.setIfInBounds r (Obj.deferred none))[k]? = w2.heap[k]? := fun w2 k hk => by rw [Array.getElem?_setIfInBounds, if_neg (Ne.symm hk)]
    have hn' := List.nodup_cons.1 hn
    refine leavesM hv ms _ hn'.2 (fun q hq => ?_) (fun w' e1 e2 e3 e4 e5 e6 => ?_)
    · have hne : q ≠ r := fun e => hn'.1 (e ▸ hq)
      exact (hoth w q hne).trans (hm q (List.mem_cons_of_mem _ hq))
    · refine hk w' ?_ (fun k hk' => ?_) e3 e4 e5 (fun b o => ?_)
      · rw [e1]; simp [World.putObj]
      · have hne : k ≠ r := fun e => hk' (e ▸ List.mem_cons_self ..)
        rw [e2 k (fun h => hk' (List.mem_cons_of_mem _ h))]
        exact hoth w k hne
      · rw [e6 b o]
        by_cases hb : b = r
        · subst hb
          simp only [World.cell?, hr]
          have : (w.heap.setIfInBounds b (Obj.deferred none))[b]? = some (Obj.deferred none) := by simp [hlt]
          simp [World.putObj, this]
        · exact World.cell?_of_block (w := w) (a := ⟨b, o, none⟩) (hoth w b hb)
theorem AFn_of {P : Program} {f : Nat} {fn : Func} {c : Code} {args cap first : List AV} {h : Heap} {R : AV → Heap → Prop} (hf : P.funcs[f]? = some fn) (hb : fn.body = some c) (hname : (fn.name == "runtime.NumGoroutine") = false) (hn : (first ++ args ++ cap).length ≤ fn.ntmps)
    (hw : AW P none c (retQ fn h R) ⟨fn.ntmps, argTm 0 (first ++ args ++ cap), h, [], h⟩) : AFn P (.fn (.func f) first cap) args h R := by
  intro base I w fv vs h0 hwr hfv hvs
  cases hfv with
  | fn _ _ _ vf vc hvf hvc k1 k2 =>
    refine ⟨{ target := .fn (.func f) vc, args := vf ++ vs }, fun _ => rfl, ?_⟩
    have hrun : (invoke (.fn (.func f) vc) (vf ++ vs)).run P w = .ok (.enter f (vf ++ vs ++ vc)) w := by
      have hname' : ¬ fn.name = "runtime.NumGoroutine" := by simpa using hname
      simp [invoke, callFunc, hf, hb, hname']
    rw [hrun]
    have hsz : (vf ++ vs ++ vc).size = (first ++ args ++ cap).length := by simp [hvf, hvc, hvs.1]
    refine callsIn_of_wp_marks hf hb trivial ?_ rfl
    have hs : SR ⟨base, w, I⟩ I ⟨fn.ntmps, argTm 0 (first ++ args ++ cap), h, [], h⟩ { tmps := (vf ++ vs ++ vc) ++ Array.replicate (fn.ntmps - (vf ++ vs ++ vc).size) undef, defers := [] } w := by
      refine ⟨.refl _, .refl _ _, h0, hwr, by rw [Array.size_append, Array.size_replicate, hsz]; show _ = fn.ntmps; omega, fun k v e => ?_, ⟨rfl, by simp, by simp, .refl _, by simp⟩⟩
      obtain ⟨_, e2⟩ := look_argTm _ 0 k v e
      rw [Nat.sub_zero] at e2
      have hlt : k < (first ++ args ++ cap).length := (List.getElem?_eq_some_iff.1 e2).1
      rw [Array.getD_eq_getD_getElem?, Array.getElem?_append_left (by omega)]
      by_cases c1 : k < first.length
      · rw [List.append_assoc, List.getElem?_append_left c1] at e2
        rw [Array.append_assoc, Array.getElem?_append_left (by omega)]
        have := k1 k v e2
        rw [Array.getD_eq_getD_getElem?, Array.getElem?_eq_getElem (by omega)] at this
        rw [Array.getElem?_eq_getElem (by omega)]
        exact this
      · by_cases c2 : k < first.length + args.length
        · rw [List.append_assoc, List.getElem?_append_right (by omega), List.getElem?_append_left (by omega)] at e2
          rw [Array.append_assoc, Array.getElem?_append_right (by omega), Array.getElem?_append_left (by rw [hvs.1]; omega), hvf]
          have := hvs.2 _ v e2
          rw [Array.getD_eq_getD_getElem?, Array.getElem?_eq_getElem (by rw [hvs.1]; omega)] at this
          rw [Array.getElem?_eq_getElem (by rw [hvs.1]; omega)]
          exact this
        · rw [List.append_assoc, List.getElem?_append_right (by omega), List.getElem?_append_right (by omega)] at e2
          rw [Array.append_assoc, Array.getElem?_append_right (by omega), Array.getElem?_append_right (by rw [hvs.1]; omega), hvf, hvs.1]
          have hlt2 : k - first.length - args.length < cap.length := (List.getElem?_eq_some_iff.1 e2).1
          have := k2 _ v e2
          rw [Array.getD_eq_getD_getElem?, Array.getElem?_eq_getElem (by omega)] at this
          rw [Array.getElem?_eq_getElem (by omega)]
          exact this
    refine wpIn_mono (hw _ I _ w hs) ?_
    rintro e a' w' ⟨I', σ', hs', hq⟩
    have hret : ∀ v, ares fn σ' = some v → (∀ h', (∀ b o, h' b = some o ↔ σ'.h b = some o ∧ b ∉ σ'.ms) → R v h') → σ'.h0 = h → LeavesInM Fence.wide 0 P fn a'.tmps (ARes base I h w R) a'.defers .returning w' := by
      intro v hv hR hh0
      obtain ⟨u, hu, hvu⟩ := run_ares hs' P hv
      rw [hs'.marks.defs]
      have hmk : ∀ r ∈ σ'.ms, w'.heap[r]? = some (.deferred (some [])) := fun r hr => (hs'.wr.obj r _ (hs'.marks.here r hr)).2
      have hmb : ∀ r ∈ σ'.ms, base ≤ r := fun r hr => (hs'.wr.obj r _ (hs'.marks.here r hr)).1
      refine leavesM hu σ'.ms w' hs'.marks.nodup hmk (fun w2 e1 e2 e3 e4 e5 e6 => ?_)
      have hwr2 : WR base I' (fun b => if b ∈ σ'.ms then none else σ'.h b) w2 := by
        refine ⟨fun b o v k => by rw [e6]; exact hs'.wr.cell b o v k, fun b ents k => ?_, fun b o k => ?_, fun b c k => by rw [e1]; exact hs'.wr.capLt b c k⟩
        · obtain ⟨clock, h1⟩ := hs'.wr.map b ents k
          have hn : b ∉ σ'.ms := fun hm => by rw [hmk b hm] at h1; cases h1
          exact ⟨clock, (e2 b hn).trans h1⟩
        · (try dsimp only at k)
          split at k
          · cases k
          · rename_i hn
            exact ⟨(hs'.wr.obj b o k).1, (hs'.wr.obj b o k).2.keep (.refl _) rfl rfl (e2 b hn)⟩
      refine ⟨u, rfl, I', v, _, hs'.le, hwr2, hvu, ?_, fun r o hr hl => ?_, hR _ fun b o => ?_⟩
      · exact hs'.below.trans ⟨⟨e3, e4, e5.1, by rw [e1]; exact Nat.le_refl _, fun k hk => e2 k fun hm => by have := hmb k hm; exact absurd hk (Nat.not_lt.2 this)⟩, Nat.le_of_eq e5.2.symm⟩
      · obtain ⟨o', k1, k2⟩ := hs'.marks.keep r o (by rw [hh0]; exact hr) hl
        have hn : r ∉ σ'.ms := fun hm => by
          have := hs'.marks.apart r hm o (by rw [hh0]; exact hr)
          rw [hl] at this; cases this
        refine ⟨o', ?_, k2⟩
        try dsimp only
        rw [if_neg hn]; exact k1
      · try dsimp only
        split
        · rename_i hm; simp [hm]
        · rename_i hm; simp [hm]
    cases e with
    | normal => obtain ⟨v, h1, h2, h3⟩ := hq; exact hret v h1 h3 h2
    | ret => obtain ⟨v, h1, h2, h3⟩ := hq; exact hret v h1 h3 h2
    | exit id => exact hq.elim
    | goto l => exact hq.elim
    | panic ch => exact hq.elim
    | outgrown => exact hq.elim
end Go.AM
end
