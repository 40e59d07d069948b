/- A part of the proof: walks of the code and laws that they use (Am15, Am16). Conditions: as each theorem names them. -/
import Derived.Scope
import Derived.Test.YtdognapppnfpiaaGreatDoorC8
section
set_option linter.unusedVariables false
set_option linter.unusedSimpArgs false
namespace Go.AM
open Go.RowKit
theorem stepR_scope {P : Program} {b : Frame} {a : Act} {k : List Item} {cs : List Frame} {w : World} {c : Code} : step P (lone (b.atR a (.code (.scope c) :: k)) cs w) = .next (lone (b.atR a (.code c :: .inScope c :: k)) cs w) :=
  step_lone_go (by simp [stepG, stepG.exec, Frame.atR])
theorem stepR_inScope {P : Program} {b : Frame} {a : Act} {k : List Item} {cs : List Frame} {w : World} {c : Code} : step P (lone (b.atR a (.inScope c :: k)) cs w) = .next (lone (b.atR a k) cs w) :=
  step_lone_go (by simp [stepG, stepG.exec, Frame.atR])
def jumpQ {α : Type} (l : Nat) (J : α) (Q : Exit → α) (no : α) : Exit → α
  | .goto l' => if l' = l then J else no
  | e => Q e
theorem wpIn_scope {F : Fence} {n : Nat} {P : Program} {Q : Exit → Act → World → Prop} {a : Act} {w : World} {c rest : Code} {l : Nat} (hf : findLabel c l = some rest) (J : Act → World → Prop)
    (first : c.wpIn F n P (jumpQ l J Q fun _ _ => False) a w) (pass : ∀ a w, J a w → rest.wpIn F n P (fun e a w => (∀ l, e ≠ .goto l) ∧ Q e a w) a w) : (Code.scope c).wpIn F n P Q a w := by
  intro b k cs hro hb hr
  have h0 : (lone (b.atR a (.code (.scope c) :: k)) cs w).fenced P F := fenced_calm hb hr rfl
  have hg : gotoIn l (.inScope c :: k) = some (.code rest :: .inScope c :: k) := by simp [gotoIn, hf]
  have hx : ∀ id, exitTo id (.inScope c :: k) = exitTo id k := fun id => by simp [exitTo]
  have done : ∀ m e a' w', (∀ l, e ≠ .goto l) → ArrivesIn (Machine.fenced P F) P m b (.inScope c :: k) cs e a' w' → ArrivesIn (Machine.fenced P F) P m b k cs e a' w' := by
    intro m e a' w' hne harr
    cases e with
    | normal => exact StepsIn.trans harr (.one (fenced_calm hb hr rfl) stepR_inScope)
    | exit id => exact ⟨fun k' hk => harr.1 k' (by rw [hx]; exact hk), fun hr' hk => harr.2 hr' (by rw [hx]; exact hk)⟩
    | goto l' => exact absurd rfl (hne l')
    | ret => exact harr
    | panic ch => exact harr
    | outgrown => exact harr
  obtain ⟨e, a₁, w₁, hq, harr⟩ := first b (.inScope c :: k) cs hro hb hr
  by_cases hgo : ∃ l', e = .goto l'
  · obtain ⟨l', rfl⟩ := hgo
    simp only [jumpQ] at hq
    split at hq
    · rename_i hl
      subst hl
      obtain ⟨e₂, a₂, w₂, ⟨hne, hq₂⟩, harr₂⟩ := pass _ _ hq b (.inScope c :: k) cs hro hb hr
      exact ⟨e₂, a₂, w₂, hq₂, .of_steps (.head h0 stepR_scope (harr.1 _ hg)) (done _ _ _ _ hne harr₂)⟩
    · exact hq.elim
  · have hne : ∀ l, e ≠ .goto l := fun l h => hgo ⟨l, h⟩
    have hq' : Q e a₁ w₁ := by
      cases e <;> first | exact hq | exact absurd rfl (hne _)
    exact ⟨e, a₁, w₁, hq', .of_steps (.one h0 stepR_scope) (done _ _ _ _ hne harr)⟩
section
variable {P : Program} {ρ : Option Nat} {Q : Exit → AS → Prop} {σ : AS}
def gq (l : Nat) (M : AS → Prop) (Q : Exit → AS → Prop) : Exit → AS → Prop
  | .goto l', σ => if l' = l then M σ else False
  | .normal, σ => Q .normal σ
  | .ret, σ => Q .ret σ
  | .exit id, σ => Q (.exit id) σ
  | e, σ => Q e σ
def nq (Q : Exit → AS → Prop) : Exit → AS → Prop
  | .goto l', σ => False
  | .normal, σ => Q .normal σ
  | .ret, σ => Q .ret σ
  | .exit id, σ => Q (.exit id) σ
  | e, σ => Q e σ
theorem AW_scope {c rest : Code} {l : Nat} (M : AS → Prop) (hf : findLabel c l = some rest) (h : AW P ρ c (gq l M Q) σ) (k : ∀ σ', M σ' → AW P ρ rest (nq Q) σ') : AW P ρ (.scope c) Q σ := by
  intro g I a w hs
  refine wpIn_scope hf (fun a w => ∃ I σ, SR g I σ a w ∧ M σ) (wpIn_mono (h g I a w hs) ?_) ?_
  · rintro e a' w' ⟨I', σ', hs', hq⟩
    cases e with
    | goto l' =>
      simp only [jumpQ, gq] at hq ⊢
      split
      · rename_i e; rw [if_pos e] at hq; exact ⟨I', σ', hs', hq⟩
      · rename_i e; rw [if_neg e] at hq; exact hq.elim
    | normal => exact ⟨I', σ', hs', hq⟩
    | exit id => exact ⟨I', σ', hs', hq⟩
    | ret => exact ⟨I', σ', hs', hq⟩
    | panic ch => exact ⟨I', σ', hs', hq⟩
    | outgrown => exact ⟨I', σ', hs', hq⟩
  · rintro a' w' ⟨I', σ', hs', hm⟩
    refine wpIn_mono (k σ' hm g I' a' w' hs') ?_
    rintro e a'' w'' ⟨I'', σ'', hs'', hq⟩
    cases e with
    | goto l' => exact hq.elim
    | normal => exact ⟨fun _ h => (by cases h), I'', σ'', hs'', hq⟩
    | exit id => exact ⟨fun _ h => (by cases h), I'', σ'', hs'', hq⟩
    | ret => exact ⟨fun _ h => (by cases h), I'', σ'', hs'', hq⟩
    | panic ch => exact ⟨fun _ h => (by cases h), I'', σ'', hs'', hq⟩
    | outgrown => exact ⟨fun _ h => (by cases h), I'', σ'', hs'', hq⟩
theorem AW_say {c : Code} {n k : Nat} {tm : List (Nat × AV)} {h h0 : Heap} {ms : List Nat} {v : AV} (u : AV) (hk : look tm k = some v) (e : v = u) (hh : AW P ρ c Q ⟨n, (k, u) :: tm, h, ms, h0⟩) : AW P ρ c Q ⟨n, tm, h, ms, h0⟩ := by
  subst e; exact AW_ghost (Sub.again hk).ghost hh
theorem AL_mg {o o' : Oper} {ops : Array Oper} {l : List Oper} {n d j t : Nat} {tm : List (Nat × AV)} {h h0 : Heap} {ms : List Nat} {b : Bool} {R : AV → Heap → Prop} (hg : o.guard = some (j, b)) (hj : ops[j]? = some o') (ht : o'.dst = some t) (hb : look tm t = some (.lit (.bool b))) (hdst : o.dst = some d) (hd : Nat.blt d n = true)
    (hp : MO P ρ o ⟨n, tm, h, ms, h0⟩ R) (k : ∀ v h', R v h' → AL P ρ ops l Q ⟨n, (d, v) :: tm, h', ms, h0⟩) : AL P ρ ops (o :: l) Q ⟨n, tm, h, ms, h0⟩ := by
  refine AL_want _ hg hj ht hb (hp.ao (by rw [hdst]; exact hd)) fun σ' ⟨v, h', e, hR⟩ => ?_
  rw [e, hdst]; exact k v h' hR
theorem ret_R {fn : Func} {R : AV → Heap → Prop} {n : Nat} {tm : List (Nat × AV)} {h h0 : Heap} {v : AV} {e : Exit} (he : e = .ret ∨ e = .normal) (hv : ares fn ⟨n, tm, h, [], h0⟩ = some v) (hR : R v h) : retQ fn h0 R e ⟨n, tm, h, [], h0⟩ := by
  have : ∃ u, ares fn ⟨n, tm, h, [], h0⟩ = some u ∧ h0 = h0 ∧ ∀ h', (∀ b o, h' b = some o ↔ h b = some o ∧ b ∉ ([] : List Nat)) → R u h' :=
    ⟨v, hv, rfl, fun h' hk => by
      have : h' = h := by
        funext b
        apply Option.ext
        intro o
        rw [hk b o]; simp
      rw [this]; exact hR⟩
  rcases he with rfl | rfl <;> exact this
end
end Go.AM
end
section
set_option linter.unusedVariables false
set_option linter.unusedSimpArgs false
namespace Go.AM
open Go.RowKit
def Results (P : Program) (fn : Func) (σ : AS) (v : AV) : Prop := ∀ g I a w, SR g I σ a w → ∀ w', (∀ b o, w'.cell? ⟨b, o, none⟩ = w.cell? ⟨b, o, none⟩) → ∃ u, (results fn a.tmps).run P w' = .ok u w' ∧ VR I v u
def retG (P : Program) (fn : Func) (h : Heap) (R : AV → Heap → Prop) : Exit → AS → Prop
  | .normal, σ | .ret, σ => ∃ v, Results P fn σ v ∧ σ.h0 = h ∧ ∀ h', (∀ b o, h' b = some o ↔ σ.h b = some o ∧ b ∉ σ.ms) → R v h'
  | _, _ => False
theorem Results.of_ares {P : Program} {fn : Func} {σ : AS} {v : AV} (h : ares fn σ = some v) : Results P fn σ v := fun g I a w hs =>
  let ⟨u, h1, h2⟩ := run_ares hs P h
  fun w' _ => ⟨u, h1 w', h2⟩
theorem Results.cell {P : Program} {fn : Func} {σ : AS} {v : AV} {c t b off n : Nat} {d : TypeDesc} {cs : List AV} (hr : fn.results = #[.cell c t]) (ht : TyF P t d n) (hc : look σ.tm c = some (.ptr b off)) (hb : σ.h b = some (.row cs)) (hl : loaded d n (cs.drop off) = some v) : Results P fn σ v := by
  intro g I a w hs w' hw
  have hp := hs.slot c _ hc
  generalize hu : a.tmps.getD c undef = p at hp
  cases hp with
  | ptr =>
    obtain ⟨u, hcl, hc, hv⟩ := row_cells (hs.wr.obj b _ hb).2 off
    obtain ⟨y, h1, h2⟩ := load_cells (P := P) (I := I) (w := w') ht (ad := ⟨b, off, none⟩) rfl hcl (fun j a e => (hw _ _).trans (hc j a e)) hv hl
    refine ⟨y, ?_, h2⟩
    rw [results_eq, hr]
    simp [resOne, hu, asAddr, h1]
theorem leavesG {P : Program} {F : Fence} {fn : Func} {tmps : Array Value} {R : Ending → World → Prop} {Pv : Value → Prop} : ∀ (ms : List Nat) (w : World), (∀ w', (∀ b o, w'.cell? ⟨b, o, none⟩ = w.cell? ⟨b, o, none⟩) → ∃ v, (results fn tmps).run P w' = .ok v w' ∧ Pv v) → ms.Nodup → (∀ r ∈ ms, w.heap[r]? = some (.deferred (some []))) →
    (∀ w' v, Pv v → w'.heap.size = w.heap.size → (∀ k, k ∉ ms → w'.heap[k]? = w.heap[k]?) → w'.os = w.os → w'.tape = w.tape → (w'.output = w.output ∧ w'.drawn = w.drawn) → (∀ b o, w'.cell? ⟨b, o, none⟩ = w.cell? ⟨b, o, none⟩) → R (.returned v) w') →
    LeavesInM F 0 P fn tmps R (ms.map fun r => { target := .collected r, args := #[] }) .returning w
  | [], w, hv, _, _, hk => by
    obtain ⟨v, h1, h2⟩ := hv w (fun _ _ => rfl)
    exact ⟨v, h1, hk w v h2 rfl (fun _ _ => rfl) rfl rfl ⟨rfl, rfl⟩ (fun _ _ => rfl)⟩
  | r :: ms, w, hv, hn, hm, hk => by
    have hr := hm r (List.mem_cons_self ..)
    have hlt : r < w.heap.size := (Array.getElem?_eq_some_iff.1 hr).1
    refine ⟨by simp, .inl ⟨r, _, rfl, run_takeDeferred hr, ?_⟩⟩
    have hoth : ∀ (w2 : World) (k : Nat), k ≠ r → (w2.heap.setIfInBounds r (Obj.deferred none))[k]? = w2.heap[k]? := fun w2 k hk => by rw [Array.getElem?_setIfInBounds, if_neg (Ne.symm hk)]
    have hn' := List.nodup_cons.1 hn
    have hcl : ∀ b o, World.cell? { w with heap := w.heap.setIfInBounds r (Obj.deferred none) } ⟨b, o, none⟩ = w.cell? ⟨b, o, none⟩ := fun b o => by
      by_cases hb : b = r
      · subst hb
        simp only [World.cell?, hr]
        have : (w.heap.setIfInBounds b (Obj.deferred none))[b]? = some (Obj.deferred none) := by simp [hlt]
        simp [this]
      · exact World.cell?_of_block (w := w) (a := ⟨b, o, none⟩) (hoth w b hb)
    refine leavesG ms _ (fun w' hc => hv w' fun b o => (hc b o).trans (hcl b o)) hn'.2 (fun q hq => ?_) (fun w' v hpv e1 e2 e3 e4 e5 e6 => ?_)
    · have hne : q ≠ r := fun e => hn'.1 (e ▸ hq)
      exact (hoth w q hne).trans (hm q (List.mem_cons_of_mem _ hq))
    · refine hk w' v hpv ?_ (fun k hk' => ?_) e3 e4 e5 (fun b o => ?_)
      · rw [e1]; simp [World.putObj]
      · have hne : k ≠ r := fun e => hk' (e ▸ List.mem_cons_self ..)
        rw [e2 k (fun h => hk' (List.mem_cons_of_mem _ h))]
        exact hoth w k hne
      · rw [e6 b o]
        by_cases hb : b = r
        · subst hb
          simp only [World.cell?, hr]
          have : (w.heap.setIfInBounds b (Obj.deferred none))[b]? = some (Obj.deferred none) := by simp [hlt]
          simp [World.putObj, this]
        · exact World.cell?_of_block (w := w) (a := ⟨b, o, none⟩) (hoth w b hb)
theorem AFn_ofG {P : Program} {f : Nat} {fn : Func} {c : Code} {args cap first : List AV} {h : Heap} {R : AV → Heap → Prop} (hf : P.funcs[f]? = some fn) (hb : fn.body = some c) (hname : (fn.name == "runtime.NumGoroutine") = false) (hn : (first ++ args ++ cap).length ≤ fn.ntmps)
    (hw : AW P none c (retG P fn h R) ⟨fn.ntmps, argTm 0 (first ++ args ++ cap), h, [], h⟩) : AFn P (.fn (.func f) first cap) args h R := by
  intro base I w fv vs h0 hwr hfv hvs
  cases hfv with
  | fn _ _ _ vf vc hvf hvc k1 k2 =>
    refine ⟨{ target := .fn (.func f) vc, args := vf ++ vs }, fun _ => rfl, ?_⟩
    have hrun : (invoke (.fn (.func f) vc) (vf ++ vs)).run P w = .ok (.enter f (vf ++ vs ++ vc)) w := by
      have hname' : ¬ fn.name = "runtime.NumGoroutine" := by simpa using hname
      simp [invoke, callFunc, hf, hb, hname']
    rw [hrun]
    have hsz : (vf ++ vs ++ vc).size = (first ++ args ++ cap).length := by simp [hvf, hvc, hvs.1]
    refine callsIn_of_wp_marks hf hb trivial ?_ rfl
    have hs : SR ⟨base, w, I⟩ I ⟨fn.ntmps, argTm 0 (first ++ args ++ cap), h, [], h⟩ { tmps := (vf ++ vs ++ vc) ++ Array.replicate (fn.ntmps - (vf ++ vs ++ vc).size) undef, defers := [] } w := by
      refine ⟨.refl _, .refl _ _, h0, hwr, by rw [Array.size_append, Array.size_replicate, hsz]; show _ = fn.ntmps; omega, fun k v e => ?_, ⟨rfl, by simp, by simp, .refl _, by simp⟩⟩
      obtain ⟨_, e2⟩ := look_argTm _ 0 k v e
      rw [Nat.sub_zero] at e2
      have hlt : k < (first ++ args ++ cap).length := (List.getElem?_eq_some_iff.1 e2).1
      rw [Array.getD_eq_getD_getElem?, Array.getElem?_append_left (by omega)]
      by_cases c1 : k < first.length
      · rw [List.append_assoc, List.getElem?_append_left c1] at e2
        rw [Array.append_assoc, Array.getElem?_append_left (by omega)]
        have := k1 k v e2
        rw [Array.getD_eq_getD_getElem?, Array.getElem?_eq_getElem (by omega)] at this
        rw [Array.getElem?_eq_getElem (by omega)]
        exact this
      · by_cases c2 : k < first.length + args.length
        · rw [List.append_assoc, List.getElem?_append_right (by omega), List.getElem?_append_left (by omega)] at e2
          rw [Array.append_assoc, Array.getElem?_append_right (by omega), Array.getElem?_append_left (by rw [hvs.1]; omega), hvf]
          have := hvs.2 _ v e2
          rw [Array.getD_eq_getD_getElem?, Array.getElem?_eq_getElem (by rw [hvs.1]; omega)] at this
          rw [Array.getElem?_eq_getElem (by rw [hvs.1]; omega)]
          exact this
        · rw [List.append_assoc, List.getElem?_append_right (by omega), List.getElem?_append_right (by omega)] at e2
          rw [Array.append_assoc, Array.getElem?_append_right (by omega), Array.getElem?_append_right (by rw [hvs.1]; omega), hvf, hvs.1]
          have hlt2 : k - first.length - args.length < cap.length := (List.getElem?_eq_some_iff.1 e2).1
          have := k2 _ v e2
          rw [Array.getD_eq_getD_getElem?, Array.getElem?_eq_getElem (by omega)] at this
          rw [Array.getElem?_eq_getElem (by omega)]
          exact this
    refine wpIn_mono (hw _ I _ w hs) ?_
    rintro e a' w' ⟨I', σ', hs', hq⟩
    have hret : ∀ v, Results P fn σ' v → (∀ h', (∀ b o, h' b = some o ↔ σ'.h b = some o ∧ b ∉ σ'.ms) → R v h') → σ'.h0 = h → LeavesInM Fence.wide 0 P fn a'.tmps (ARes base I h w R) a'.defers .returning w' := by
      intro v hv hR hh0
      rw [hs'.marks.defs]
      have hmk : ∀ r ∈ σ'.ms, w'.heap[r]? = some (.deferred (some [])) := fun r hr => (hs'.wr.obj r _ (hs'.marks.here r hr)).2
      have hmb : ∀ r ∈ σ'.ms, base ≤ r := fun r hr => (hs'.wr.obj r _ (hs'.marks.here r hr)).1
      refine leavesG (Pv := fun u => VR I' v u) σ'.ms w' (hv _ _ _ _ hs') hs'.marks.nodup hmk (fun w2 u hvu e1 e2 e3 e4 e5 e6 => ?_)
      have hwr2 : WR base I' (fun b => if b ∈ σ'.ms then none else σ'.h b) w2 := by
        refine ⟨fun b o v k => by rw [e6]; exact hs'.wr.cell b o v k, fun b ents k => ?_, fun b o k => ?_, fun b c k => by rw [e1]; exact hs'.wr.capLt b c k⟩
        · obtain ⟨clock, h1⟩ := hs'.wr.map b ents k
          have hn : b ∉ σ'.ms := fun hm => by rw [hmk b hm] at h1; cases h1
          exact ⟨clock, (e2 b hn).trans h1⟩
        · (try dsimp only at k)
          split at k
          · cases k
          · rename_i hn
            exact ⟨(hs'.wr.obj b o k).1, (hs'.wr.obj b o k).2.keep (.refl _) rfl rfl (e2 b hn)⟩
      refine ⟨u, rfl, I', v, _, hs'.le, hwr2, hvu, ?_, fun r o hr hl => ?_, hR _ fun b o => ?_⟩
      · exact hs'.below.trans ⟨⟨e3, e4, e5.1, by rw [e1]; exact Nat.le_refl _, fun k hk => e2 k fun hm => by have := hmb k hm; exact absurd hk (Nat.not_lt.2 this)⟩, Nat.le_of_eq e5.2.symm⟩
      · obtain ⟨o', k1, k2⟩ := hs'.marks.keep r o (by rw [hh0]; exact hr) hl
        have hn : r ∉ σ'.ms := fun hm => by
          have := hs'.marks.apart r hm o (by rw [hh0]; exact hr)
          rw [hl] at this; cases this
        refine ⟨o', ?_, k2⟩
        try dsimp only
        rw [if_neg hn]; exact k1
      · try dsimp only
        split
        · rename_i hm; simp [hm]
        · rename_i hm; simp [hm]
    cases e with
    | normal => obtain ⟨v, h1, h2, h3⟩ := hq; exact hret v h1 h3 h2
    | ret => obtain ⟨v, h1, h2, h3⟩ := hq; exact hret v h1 h3 h2
    | exit id => exact hq.elim
    | goto l => exact hq.elim
    | panic ch => exact hq.elim
    | outgrown => exact hq.elim
theorem ret_G {P : Program} {fn : Func} {u v : AV} {n : Nat} {tm : List (Nat × AV)} {h h0 : Heap} {ms : List Nat} {e : Exit} (he : e = .ret ∨ e = .normal) (hv : Results P fn ⟨n, tm, h, ms, h0⟩ u) (huv : u = v) (hh : h0.le h) (hms : ∀ b ∈ ms, h0 b = none) : retG P fn h0 (fun a h' => a = v ∧ h0.le h') e ⟨n, tm, h, ms, h0⟩ := by
  have : ∃ u, Results P fn ⟨n, tm, h, ms, h0⟩ u ∧ h0 = h0 ∧ ∀ h', (∀ b o, h' b = some o ↔ h b = some o ∧ b ∉ ms) → u = v ∧ h0.le h' :=
    ⟨u, hv, rfl, fun h' hk => ⟨huv, fun b o e => (hk b o).2 ⟨hh b o e, fun hm => by rw [hms b hm] at e; cases e⟩⟩⟩
  rcases he with rfl | rfl <;> exact this
theorem PFn_ofG {P : Program} {n f : Nat} {tm : List (Nat × AV)} {fn : Func} {c : Code} {args cap first : List AV} {v : AV} (hf : P.funcs[f]? = some fn) (hb : fn.body = some c) (hname : (fn.name == "runtime.NumGoroutine") = false) (hn : fn.ntmps = n) (ht : argTm 0 (first ++ args ++ cap) = tm) (hle : (first ++ args ++ cap).length ≤ n)
    (hw : ∀ h, AW P none c (retG P fn h (fun a h' => a = v ∧ h.le h')) ⟨n, tm, h, [], h⟩) : PFn P (.fn (.func f) first cap) args v := by
  intro h
  refine AFn_ofG hf hb hname (by omega) ?_
  rw [hn, ht]; exact hw h
section
variable {P : Program} {ρ : Option Nat} {Q : Exit → AS → Prop} {o : Oper} {ops : Array Oper} {l : List Oper} {n d : Nat} {tm : List (Nat × AV)} {h h0 : Heap} {ms : List Nat}
theorem AL_alloc {e : TypeId} {zs : List AV} (hg : o.guard = none) (hdst : o.dst = some d) (hd : Nat.blt d n = true) (ho : o.op = .alloc e) (hz : ZeroF P e zs) (k : ∀ b, h b = none → AL P ρ ops l Q ⟨n, (d, .ptr b 0) :: tm, h.upd b (some (.row zs)), ms, h0⟩) : AL P ρ ops (o :: l) Q ⟨n, tm, h, ms, h0⟩ :=
  AL_m hg hdst hd (MO_alloc ho hz) fun v h' ⟨b, hb, e1, e2⟩ => by subst e1; subst e2; exact k b hb
theorem AL_boxm {x : Operand} {e : TypeId} {v : AV} (hg : o.guard = none) (hdst : o.dst = some d) (hd : Nat.blt d n = true) (ho : o.op = .box e x) (hx : ev tm x = some v) (h1 : acell1 v = true) (k : ∀ b, h b = none → AL P ρ ops l Q ⟨n, (d, .ptr b 0) :: tm, h.upd b (some (.row (acells v))), ms, h0⟩) : AL P ρ ops (o :: l) Q ⟨n, tm, h, ms, h0⟩ :=
  AL_m hg hdst hd (MO_box ho hx h1) fun v h' ⟨b, hb, e1, e2⟩ => by subst e1; subst e2; exact k b hb
theorem AL_store {x y : Operand} {t : TypeId} {dd : TypeDesc} {m b off : Nat} {cs : List AV} {v : AV} (hg : o.guard = none) (hdst : o.dst = none) (ho : o.op = .store t x y) (ht : TyF P t dd m) (hx : ev tm x = some (.ptr b off)) (hy : ev tm y = some v) (hb : h b = some (.row cs))
    (h1 : acell1 v = true) (hn : (acells v).length = m) (hle : off + m ≤ cs.length) (k : AL P ρ ops l Q ⟨n, tm, h.upd b (some (.row (setCells cs off (acells v)))), ms, h0⟩) : AL P ρ ops (o :: l) Q ⟨n, tm, h, ms, h0⟩ :=
  AL_u hg hdst (MO_store ho ht hx hy hb h1 hn hle) fun v h' ⟨_, e2⟩ => by subst e2; exact k
theorem Heap.le_upd {h h1 : Heap} (hl : h.le h1) {b : Nat} (hb : h b = none) (o : Option AObj) : h.le (h1.upd b o) := fun q x e => by
  have hne : q ≠ b := fun e2 => by subst e2; rw [hb] at e; cases e
  rw [Heap.upd_other _ hne]; exact hl q x e
theorem Heap.none_of {h h1 : Heap} (hl : h.le h1) {b : Nat} (hb : h1 b = none) : h b = none := by
  cases hq : h b with
  | none => rfl
  | some o => have := hl _ _ hq; rw [hb] at this; cases this
theorem AW_rangeF {gop : Operand} {ps : Array Nat} {assign body : Code} {f : Nat} {fn : Func} {fi ca : List AV} {xs : List (List AV)} (hit : ev tm gop = some (.fn (.func f) fi ca)) (hf : P.funcs[f]? = some fn) (hb : fn.body.isSome = true) (hname : (fn.name == "runtime.NumGoroutine") = false)
    (hI : AIter P (.fn (.func f) fi ca) xs) (J : Nat → Heap → Prop) (Jx : Exit → Nat → Heap → Prop) (A : Nat → List (Nat × AV) → Prop) (hps : (ps.toList.all fun p => Nat.blt p n) = true) (hxl : ∀ x ∈ xs, x.length = ps.size)
    (hJ0 : J 0 h)
    (hJ : ∀ l, h l = none → ∀ i h1 h2, J i h1 → Steady l h1 h2 → J i h2)
    (hJx : ∀ l, h l = none → ∀ e i h1 h2, Jx e i h1 → Steady l h1 h2 → Jx e i h2)
    (hassign : ∀ l i x hr, xs[i]? = some x → J i hr → AW P (some l) assign (sq (fun σ1 => σ1.n = n ∧ σ1.ms = [] ∧ σ1.h0 = hr ∧ hr.le σ1.h ∧ J i σ1.h ∧ A i σ1.tm) (fun _ _ => False)) ⟨n, setPs tm ps.toList x, hr, [], hr⟩)
    (hbody : ∀ l i x hr tm, xs[i]? = some x → J i hr → A i tm → AW P (some l) body (roundQ hr (J (i + 1)) (fun e => Jx e (i + 1))) ⟨n, tm, hr, [], hr⟩)
    (hdone : ∀ hd r, h r = none → hd r = some .mark → J xs.length hd → Q .normal ⟨n, tm, hd, r :: ms, h0⟩)
    (hstop : ∀ e i hd r, h r = none → hd r = some .mark → (codeOf e).isSome = true → Jx e i hd → Q e ⟨n, tm, hd, r :: ms, h0⟩) :
    AW P none (.rangeFunc gop ps assign body) Q ⟨n, tm, h, ms, h0⟩ :=
  AW_rangeFunc (σ := ⟨n, tm, h, ms, h0⟩) hit hf hb hname hI J Jx A (fun p hp => by
    rw [List.all_eq_true] at hps
    have := hps p hp
    simp [Nat.blt] at this
    exact this) hxl hJ0 hJ hJx hassign hbody hdone hstop
end
end Go.AM
end
