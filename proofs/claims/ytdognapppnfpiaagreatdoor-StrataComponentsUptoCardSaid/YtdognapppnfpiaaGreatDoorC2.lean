/- A part of the proof: walks of the code and laws that they use (Am3). Conditions: as each theorem names them. -/
import Derived.Laws.Cells
import Derived.Laws.Entries
import Derived.Laws.Slices
import Derived.Deep.MidRow
import Derived.WalkKit
import Derived.Test.YtdognapppnfpiaaGreatDoorC1
section
set_option linter.unusedVariables false
set_option linter.unusedSimpArgs false
namespace Go.AM
open Go.RowKit
def MO (P : Program) (ρ : Option Nat) (o : Oper) (σ : AS) (R : AV → Heap → Prop) : Prop :=
  ∀ g I a w, SR g I σ a w → o.wpIn (WF ρ) 0 P a w (fun a' w' => ∃ I' u v h', I.le I' ∧ a' = a.put o.dst u ∧ VR I' v u ∧ SR g I' (σ.setH h') a w' ∧ R v h') (fun _ _ _ => False)
def PO (P : Program) (ρ : Option Nat) (o : Oper) (σ : AS) (v : AV) : Prop :=
  ∀ g I a w, SR g I σ a w → o.wpIn (WF ρ) 0 P a w (fun a' w' => ∃ I' u, I.le I' ∧ a' = a.put o.dst u ∧ VR I' v u ∧ SR g I' σ a w') (fun _ _ _ => False)
theorem wpIn_oper_mono {F : Fence} {n : Nat} {P : Program} {o : Oper} {a : Act} {w : World} {K K' : Act → World → Prop} {Q Q' : Exit → Act → World → Prop}
    (h : o.wpIn F n P a w K Q) (hk : ∀ a w, K a w → K' a w) (hq : ∀ e a w, Q e a w → Q' e a w) : o.wpIn F n P a w K' Q' := by
  refine ⟨h.1, ?_⟩
  have h2 := h.2
  unfold Oper.uponIn at h2 ⊢
  split at h2
  · exact hk _ _ h2
  · exact hk _ _ h2
  · exact hk _ _ h2
  · refine ⟨h2.1, h2.2.mono ?_⟩
    intro e w' hR
    cases e with
    | returned v => exact hk _ _ hR
    | panicked ch => exact hq _ _ _ hR
    | outgrown => obtain ⟨a, w, k⟩ := hR; exact ⟨a, w, hq _ _ _ k⟩
  · exact ⟨h2.1, h2.2.mono fun v w' hR => hk _ _ hR⟩
  · refine ⟨h2.1, h2.2.mono ?_⟩
    intro e w' hR
    cases e with
    | returned v => exact hk _ _ hR
    | panicked ch => exact hq _ _ _ hR
    | outgrown => obtain ⟨a, w, k⟩ := hR; exact ⟨a, w, hq _ _ _ k⟩
  · exact hq _ _ _ h2
  · exact h2
section
variable {P : Program} {ρ : Option Nat} {Q : Exit → AS → Prop} {σ : AS} {o : Oper} {ops : Array Oper} {l : List Oper}
theorem PO.mo {v : AV} (h : PO P ρ o σ v) : MO P ρ o σ (fun v' h' => v' = v ∧ h' = σ.h) := fun g I a w hs =>
  wpIn_oper_mono (h g I a w hs) (fun a' w' ⟨I', u, h1, h2, h3, h4⟩ => ⟨I', u, v, σ.h, h1, h2, h3, h4, rfl, rfl⟩) fun _ _ _ h => h
def dstOk (n : Nat) : Option Nat → Bool
  | none => true
  | some d => Nat.blt d n
theorem MO.ao {R : AV → Heap → Prop} (hd : dstOk σ.n o.dst = true) (h : MO P ρ o σ R) : AO P ρ o (fun σ' => ∃ v h', σ' = (σ.setH h').putO o.dst v ∧ R v h') Q σ := by
  intro g I a w hs
  refine wpIn_oper_mono (h g I a w hs) ?_ fun _ _ _ h => h.elim
  rintro a' w' ⟨I', u, v, h', hle, rfl, hv, hs', hR⟩
  refine ⟨I', _, ?_, v, h', rfl, hR⟩
  cases hdst : o.dst with
  | none => exact hs'
  | some d =>
    rw [hdst] at hd
    have hlt : d < (σ.setH h').n := by
      have : d + 1 ≤ σ.n := by simpa [dstOk, Nat.blt] using hd
      exact this
    exact hs'.put d hlt hv
theorem AL_mo {R : AV → Heap → Prop} (hg : o.guard = none) (hd : dstOk σ.n o.dst = true) (h : MO P ρ o σ R) (k : ∀ v h', R v h' → AL P ρ ops l Q ((σ.setH h').putO o.dst v)) : AL P ρ ops (o :: l) Q σ :=
  AL_cons _ hg (h.ao hd) fun σ' ⟨v, h', e, hR⟩ => e ▸ k v h' hR
theorem AL_po {v : AV} (hg : o.guard = none) (hd : dstOk σ.n o.dst = true) (h : PO P ρ o σ v) (k : AL P ρ ops l Q (σ.putO o.dst v)) : AL P ρ ops (o :: l) Q σ :=
  AL_mo hg hd h.mo fun v' h' ⟨e1, e2⟩ => by subst e1; subst e2; exact k
theorem AL_pog {o' : Oper} {j t : Nat} {b : Bool} {v : AV} (hg : o.guard = some (j, b)) (hj : ops[j]? = some o') (ht : o'.dst = some t) (hb : look σ.tm t = some (.lit (.bool b)))
    (hd : dstOk σ.n o.dst = true) (h : PO P ρ o σ v) (k : AL P ρ ops l Q (σ.putO o.dst v)) : AL P ρ ops (o :: l) Q σ :=
  AL_want _ hg hj ht hb (h.mo.ao hd) fun σ' ⟨v', h', e, e1, e2⟩ => by subst e1; subst e2; exact e ▸ k
/-! ### The run of an operation that yields a value -/
theorem wpIn_of_run {K : Act → World → Prop} {QQ : Exit → Act → World → Prop} {a : Act} {w w' : World} {u : Value} (hnd : ∀ c, o.op ≠ .defer c) (hnc : ∀ c, o.op ≠ .call c)
    (h : (execOp a.eval o).run P w = .ok (.value u) w') (hK : K (a.put o.dst u) w') : o.wpIn (WF ρ) 0 P a w K QQ := by
  refine ⟨fun _ _ => trivial, ?_⟩
  rw [Oper.semAt_eq _ _ _ hnd]
  rw [h]
  exact hK
theorem wpIn_of_run' {K : Act → World → Prop} {QQ : Exit → Act → World → Prop} {a : Act} {w w' : World} {u : Value} (hnd : ∀ c, o.op ≠ .defer c)
    (h : (execOp a.eval o).run P w = .ok (.value u) w') (hK : K (a.put o.dst u) w') : o.wpIn (WF ρ) 0 P a w K QQ := by
  refine ⟨fun _ _ => trivial, ?_⟩
  rw [Oper.semAt_eq _ _ _ hnd]
  rw [h]
  exact hK
theorem wpIn_of_skip {K : Act → World → Prop} {QQ : Exit → Act → World → Prop} {a : Act} {w w' : World} (hnd : ∀ c, o.op ≠ .defer c)
    (h : (execOp a.eval o).run P w = .ok .skip w') (hK : K (a.put o.dst undef) w') : o.wpIn (WF ρ) 0 P a w K QQ := by
  refine ⟨fun _ _ => trivial, ?_⟩
  rw [Oper.semAt_eq _ _ _ hnd]
  rw [h]
  exact hK
theorem PO_of {v : AV} (hnd : ∀ c, o.op ≠ .defer c) (h : ∀ g I a w, SR g I σ a w → ∃ u, (execOp a.eval o).run P w = .ok (.value u) w ∧ VR I v u) : PO P ρ o σ v := by
  intro g I a w hs
  obtain ⟨u, hr, hv⟩ := h g I a w hs
  exact wpIn_of_run' hnd hr ⟨I, u, .refl _, rfl, hv, hs⟩
/-! ### Operands -/
def cellConst : Value → AV
  | .slice none 0 0 => .sl .nil 0 []
  | v => .lit v
def ofConst : Value → AV
  | .agg cs => if cs.toList.all (·.oneCell') then .agg (cs.toList.map cellConst) else .junk
  | .tuple _ => .junk
  | v => cellConst v
def ev (tm : List (Nat × AV)) : Operand → Option AV
  | .tmp t => look tm t
  | .const v => some (ofConst v)
  | .func f => some (.fn (.func f) [] [])
  | .global _ => none
theorem vr_cellConst (I : Imm) {v : Value} (h : v.oneCell' = true) : VR I (cellConst v) v := by
  unfold cellConst
  split
  · exact .slnil _ _ (.inl rfl)
  · exact .lit _ h
theorem cell_cellConst {v : Value} (h : v.oneCell' = true) : (cellConst v).cell = true := by
  unfold cellConst
  split
  · rfl
  · exact h
theorem vr_ofConst (I : Imm) (v : Value) : VR I (ofConst v) v := by
  unfold ofConst
  split
  · rename_i cs
    split
    · rename_i hall
      rw [List.all_eq_true] at hall
      refine .agg _ _ (by simp) ?_ ?_
      · intro a ha
        simp only [List.mem_map] at ha
        obtain ⟨c, hc, rfl⟩ := ha
        exact cell_cellConst (hall c hc)
      · intro i a ha
        rw [List.getElem?_map] at ha
        rcases Nat.lt_or_ge i cs.size with hi | hi
        · rw [Array.getElem?_toList, Array.getElem?_eq_getElem hi] at ha
          simp only [Option.map_some, Option.some.injEq] at ha
          subst ha
          rw [Array.getD_eq_getD_getElem?, Array.getElem?_eq_getElem hi]
          exact vr_cellConst I (hall _ (by simp))
        · rw [Array.getElem?_toList, Array.getElem?_eq_none hi] at ha
          cases ha
    · exact .junk _
  · exact .junk _
  · rename_i h1 h2
    refine vr_cellConst I ?_
    cases v <;> first | rfl | exact absurd rfl (h1 _) | exact absurd rfl (h2 _)
theorem SR.ev {g : G} {I : Imm} {a : Act} {w : World} (h : SR g I σ a w) {x : Operand} {v : AV} (e : ev σ.tm x = some v) : VR I v (a.eval x) := by
  cases x with
  | tmp t => exact h.eval_tmp e
  | const u =>
    have : ofConst u = v := by simpa [AM.ev] using e
    subst this
    exact vr_ofConst I u
  | global g => cases e
  | func f =>
    have : AV.fn (.func f) [] [] = v := by simpa [AM.ev] using e
    subst this
    exact .fn _ _ _ #[] #[] rfl rfl (fun i a h => by simp at h) (fun i a h => by simp at h)
theorem PO_move {x : Operand} {v : AV} (ho : o.op = .move x) (hx : ev σ.tm x = some v) : PO P ρ o σ v :=
  PO_of (by rw [ho]; simp) fun g I a w hs => ⟨a.eval x, by simp [execOp, ho], hs.ev hx⟩
theorem PO_assign {x : Operand} {v : AV} (ho : o.op = .assign x) (hx : ev σ.tm x = some v) : PO P ρ o σ v :=
  PO_of (by rw [ho]; simp) fun g I a w hs => ⟨a.eval x, by simp [execOp, ho], hs.ev hx⟩
def picked (t : Bool) (x y : Option AV) : Option AV := match t with | true => x | false => y
theorem PO_pick {c x y : Operand} {t : Bool} {v : AV} (ho : o.op = .pick c x y) (hc : ev σ.tm c = some (.lit (.bool t))) (hv : picked t (ev σ.tm x) (ev σ.tm y) = some v) : PO P ρ o σ v := by
  refine PO_of (by rw [ho]; simp) fun g I a w hs => ⟨if t then a.eval x else a.eval y, ?_, ?_⟩
  · have := VR.lit_inv (hs.ev hc)
    simp [execOp, ho, this, asBool]
  · cases t with
    | true => exact hs.ev hv
    | false => exact hs.ev hv
theorem PO_pick_bool {c x y : Operand} {t p q : Bool} (ho : o.op = .pick c x y) (hc : ev σ.tm c = some (.lit (.bool t))) (hx : ev σ.tm x = some (.lit (.bool p))) (hy : ev σ.tm y = some (.lit (.bool q))) :
    PO P ρ o σ (.lit (.bool (if t then p else q))) := by
  refine PO_of (by rw [ho]; simp) fun g I a w hs => ⟨if t then a.eval x else a.eval y, ?_, ?_⟩
  · have := VR.lit_inv (hs.ev hc)
    simp [execOp, ho, this, asBool]
  · cases t with
    | true => exact hs.ev hx
    | false => exact hs.ev hy
/-! ### Types -/
structure TyF (P : Program) (t : TypeId) (d : TypeDesc) (n : Nat) : Prop where
  u : P.underlying t = some d
  i : ∃ i, P.info? t = some i ∧ i.size = n
def isAggD : TypeDesc → Bool
  | .struct _ | .array _ _ => true
  | _ => false
theorem run_isAgg {t : TypeId} {d : TypeDesc} {n : Nat} (h : TyF P t d n) (w : World) : (isAgg t).run P w = .ok (isAggD d) w := by
  unfold isAgg
  rw [Sem.run_bind, run_underlying h.u]
  cases d <;> rfl
theorem run_sizeOf' {t : TypeId} {d : TypeDesc} {n : Nat} (h : TyF P t d n) (w : World) : (sizeOf t).run P w = .ok n w := by
  obtain ⟨i, hi, rfl⟩ := h.i
  simp [sizeOf, typeInfo, hi]
/-! ### Loads -/
def loaded (d : TypeDesc) (n : Nat) (cs : List AV) : Option AV :=
  match isAggD d with
  | true => match Nat.ble n cs.length with
    | true => some (.agg (cs.take n))
    | false => none
  | false => cs.head?
theorem add_plain (a : Addr) (h : a.spot = none) (j : Nat) : a.add j = ⟨a.block, a.off + j, none⟩ := by
  obtain ⟨b, o, s⟩ := a
  simp only at h
  subst h
  unfold Addr.add
  split <;> simp_all
theorem load_cells {I : Imm} {w : World} {t : TypeId} {d : TypeDesc} {n : Nat} (ht : TyF P t d n) {ad : Addr} (hs : ad.spot = none) {cs : List AV} {u : Nat → Value}
    (hcl : ∀ a ∈ cs, AV.cell a = true) (hc : ∀ j a, cs[j]? = some a → w.cell? ⟨ad.block, ad.off + j, none⟩ = some (u j)) (hv : ∀ j a, cs[j]? = some a → VR I a (u j)) {v : AV} (hl : loaded d n cs = some v) :
    ∃ x, (loadVar t ad).run P w = .ok x w ∧ VR I v x := by
  unfold loaded at hl
  unfold loadVar
  rw [Sem.run_bind, run_isAgg ht]
  simp only [Result.andThen_ok]
  cases hd : isAggD d with
  | true =>
    rw [hd] at hl
    simp only at hl
    split at hl
    · rename_i hn
      have hn' : n ≤ cs.length := Nat.le_of_ble_eq_true hn
      simp only [Option.some.injEq] at hl
      subst hl
      have hrun := run_loadCells (P := P) (w := w) ad n u (fun j hj => by
        rw [add_plain ad hs]
        exact hc j _ (List.getElem?_eq_getElem (by omega)))
      simp only [Sem.run_bind, run_sizeOf' ht, Result.andThen_ok, hrun, if_true]
      refine ⟨_, rfl, ?_⟩
      refine .agg _ _ (by simp; omega) (fun a ha => hcl a (List.mem_of_mem_take ha)) fun i a ha => ?_
      rcases Nat.lt_or_ge i n with hi | hi
      · rw [List.getElem?_take, if_pos hi] at ha
        have := hv i a ha
        simpa [Array.getD_eq_getD_getElem?, hi] using this
      · rw [List.getElem?_take, if_neg (by omega)] at ha
        cases ha
    · cases hl
  | false =>
    rw [hd] at hl
    simp only at hl
    have h0 : cs[0]? = some v := by rw [← hl]; cases cs <;> rfl
    have := hc 0 v h0
    refine ⟨u 0, ?_, hv 0 v h0⟩
    have e : w.cell? ad = some (u 0) := by
      rw [← this]; obtain ⟨b, o, s⟩ := ad; simp only at hs; subst hs; rfl
    simp only [Bool.false_eq_true, if_false, run_load, e]
theorem PO_load {x : Operand} {t : TypeId} {d : TypeDesc} {n : Nat} {cs : List AV} {v : AV} (ho : o.op = .load t x) (ht : TyF P t d n) (hx : ev σ.tm x = some (.ip cs)) (hl : loaded d n cs = some v) : PO P ρ o σ v := by
  refine PO_of (by rw [ho]; simp) fun g I a w hs => ?_
  have hp := hs.ev hx
  generalize hu : a.eval x = p at hp
  cases hp with
  | ip _ ad u hsp hcl hc hv =>
    obtain ⟨y, hr, hy⟩ := load_cells (P := P) (I := I) (w := w) ht hsp hcl (fun j a h => hs.wr.cell _ _ _ (hc j a h)) hv hl
    refine ⟨y, ?_, hy⟩
    simp [execOp, ho, hu, Instr.loadAt, Instr.sureAddr, hr]
theorem row_cells {I : Imm} {w : World} {b : Nat} {cs : List AV} (h : ObjR I w b (.row cs)) (off : Nat) : ∃ u : Nat → Value, (∀ a ∈ cs.drop off, AV.cell a = true) ∧
    (∀ j a, (cs.drop off)[j]? = some a → w.cell? ⟨b, off + j, none⟩ = some (u j)) ∧ (∀ j a, (cs.drop off)[j]? = some a → VR I a (u j)) := by
  obtain ⟨arr, e, hh, hsz, hcl, hv, _⟩ := h
  refine ⟨fun j => arr.getD (off + j) default, fun a ha => hcl a (List.mem_of_mem_drop ha), fun j a ha => ?_, fun j a ha => ?_⟩
  · rw [List.getElem?_drop] at ha
    have hlt : off + j < cs.length := (List.getElem?_eq_some_iff.1 ha).1
    have : off + j < arr.size := by omega
    simp [World.cell?, hh, Array.getD_eq_getD_getElem?, Array.getElem?_eq_getElem this]
  · rw [List.getElem?_drop] at ha
    exact hv _ _ ha
theorem PO_load_row {x : Operand} {t : TypeId} {d : TypeDesc} {n b off : Nat} {cs : List AV} {v : AV} (ho : o.op = .load t x) (ht : TyF P t d n) (hx : ev σ.tm x = some (.ptr b off)) (hb : σ.h b = some (.row cs))
    (hl : loaded d n (cs.drop off) = some v) : PO P ρ o σ v := by
  refine PO_of (by rw [ho]; simp) fun g I a w hs => ?_
  have hp := hs.ev hx
  generalize hu : a.eval x = p at hp
  cases hp with
  | ptr =>
    obtain ⟨u, hcl, hc, hv⟩ := row_cells (hs.wr.obj b _ hb).2 off
    obtain ⟨y, hr, hy⟩ := load_cells (P := P) (I := I) (w := w) ht (ad := ⟨b, off, none⟩) rfl hcl hc hv hl
    refine ⟨y, ?_, hy⟩
    simp [execOp, ho, hu, Instr.loadAt, Instr.sureAddr, hr]
/-! ### nil checks -/
theorem PO_nilCheck_ip {x : Operand} {cs : List AV} (ho : o.op = .nilCheck x) (hx : ev σ.tm x = some (.ip cs)) : PO P ρ o σ (.ip cs) := by
  refine PO_of (by rw [ho]; simp) fun g I a w hs => ?_
  have hp := hs.ev hx
  generalize hu : a.eval x = p at hp
  have hp' := hp
  cases hp with
  | ip _ ad u hsp hcl hc hv => exact ⟨_, by simp [execOp, ho, hu], hp'⟩
theorem PO_nilCheck_ptr {x : Operand} {b off : Nat} (ho : o.op = .nilCheck x) (hx : ev σ.tm x = some (.ptr b off)) : PO P ρ o σ (.ptr b off) := by
  refine PO_of (by rw [ho]; simp) fun g I a w hs => ?_
  have hp := hs.ev hx
  generalize hu : a.eval x = p at hp
  have hp' := hp
  cases hp with
  | ptr => exact ⟨_, by simp [execOp, ho, hu], hp'⟩
/-! ### Addresses of parts -/
structure FieldF (P : Program) (s : TypeId) (f off : Nat) (t : TypeId) : Prop where
  s : ∃ fs fl, P.underlying s = some (.struct fs) ∧ fs[f]? = some fl ∧ fl.offset = off ∧ fl.type = t
  n : ∃ i, P.info? t = some i ∧ i.size ≠ 0
theorem run_fieldAt {s : TypeId} {f off : Nat} {t : TypeId} (h : FieldF P s f off t) (ad : Addr) (w : World) : (Instr.fieldAt s (.pointer (some ad)) f).run P w = .ok (.pointer (some (ad.add off))) w := by
  obtain ⟨fs, fl, hu, hf, ho, ht⟩ := h.s
  obtain ⟨i, hi, hn⟩ := h.n
  unfold Instr.fieldAt
  rw [Sem.run_bind, run_underlying hu]
  subst ho; subst ht
  simp [hf, Instr.sureAddr, fieldPlace, sizeOf, typeInfo, hi, hn]
theorem vr_ip_drop {I : Imm} {cs : List AV} {ad : Addr} (h : VR I (.ip cs) (.pointer (some ad))) (k : Nat) : VR I (.ip (cs.drop k)) (.pointer (some (ad.add k))) := by
  cases h with
  | ip _ _ u hsp hcl hc hv =>
    rw [add_plain ad hsp]
    refine .ip _ _ (fun j => u (k + j)) rfl (fun a ha => hcl a (List.mem_of_mem_drop ha)) (fun j a ha => ?_) (fun j a ha => ?_)
    · rw [List.getElem?_drop] at ha
      have := hc _ _ ha
      rw [show ad.off + k + j = ad.off + (k + j) by omega]; exact this
    · rw [List.getElem?_drop] at ha
      exact hv _ _ ha
theorem PO_fieldAddr {x : Operand} {s : TypeId} {f off : Nat} {t : TypeId} {cs : List AV} (ho : o.op = .fieldAddr s x f) (hf : FieldF P s f off t) (hx : ev σ.tm x = some (.ip cs)) : PO P ρ o σ (.ip (cs.drop off)) := by
  refine PO_of (by rw [ho]; simp) fun g I a w hs => ?_
  have hp := hs.ev hx
  generalize hu : a.eval x = p at hp
  have hp' := hp
  cases hp with
  | ip _ ad u hsp hcl hc hv => exact ⟨_, by simp [execOp, ho, hu, run_fieldAt hf], vr_ip_drop hp' off⟩
theorem PO_fieldAddr_row {x : Operand} {s : TypeId} {f off : Nat} {t : TypeId} {b k : Nat} (ho : o.op = .fieldAddr s x f) (hf : FieldF P s f off t) (hx : ev σ.tm x = some (.ptr b k)) : PO P ρ o σ (.ptr b (k + off)) := by
  refine PO_of (by rw [ho]; simp) fun g I a w hs => ?_
  have hp := hs.ev hx
  generalize hu : a.eval x = p at hp
  cases hp with
  | ptr => exact ⟨.pointer (some (({ block := b, off := k } : Addr).add off)), by simp [execOp, ho, hu, run_fieldAt hf], by rw [add_plain _ rfl]; exact .ptr _ _⟩
theorem PO_indexAddr {x ix : Operand} {t e : TypeId} {S : Nat} {own : Own} {es : List (List AV)} {k : IntKind} {i : Int} {el : List AV} {d : TypeDesc} (ho : o.op = .indexAddr t x ix) (ht : P.underlying t = some (.slice e)) (he : TyF P e d S)
    (hx : ev σ.tm x = some (.sl own S es)) (hi : ev σ.tm ix = some (.lit (.int k i))) (h0 : 0 ≤ i) (hel : es[i.toNat]? = some el) : PO P ρ o σ (.ip el) := by
  refine PO_of (by rw [ho]; simp) fun g I a w hs => ?_
  have hp := hs.ev hx
  have hq := VR.lit_inv (hs.ev hi)
  have hlt : i.toNat < es.length := (List.getElem?_eq_some_iff.1 hel).1
  generalize hu : a.eval x = p at hp
  cases hp with
  | slnil => simp at hel
  | sl _ _ _ ad cap u how hl hcl hc hv =>
    have hsp := how.spot (by omega)
    refine ⟨.pointer (some (ad.add (i.toNat * S))), ?_, ?_⟩
    · simp only [execOp, ho, hu, hq]
      simp [Instr.indexAt, asIntOf, run_underlying ht, run_sizeOf' he, h0, show i < (es.length : Int) by omega]
    · rw [add_plain ad hsp]
      refine .ip _ _ (fun j => u i.toNat j) rfl (hcl _ (List.mem_of_getElem? hel)) (fun j a h => ?_) (fun j a h => hv _ _ _ _ hel h)
      exact hc _ _ _ _ hel h
theorem PO_indexAddr_arr {x ix : Operand} {t e : TypeId} {N S : Nat} {cs : List AV} {k : IntKind} {i : Int} {d : TypeDesc} (ho : o.op = .indexAddr t x ix) (ht : P.underlying t = some (.array N e)) (he : TyF P e d S)
    (hx : ev σ.tm x = some (.ip cs)) (hi : ev σ.tm ix = some (.lit (.int k i))) (h0 : 0 ≤ i) (h1 : i < N) : PO P ρ o σ (.ip (cs.drop (i.toNat * S))) := by
  refine PO_of (by rw [ho]; simp) fun g I a w hs => ?_
  have hp := hs.ev hx
  have hq := VR.lit_inv (hs.ev hi)
  generalize hu : a.eval x = p at hp
  have hp' := hp
  cases hp with
  | ip _ ad u hsp hcl hc hv =>
    refine ⟨.pointer (some (ad.add (i.toNat * S))), ?_, vr_ip_drop hp' _⟩
    simp only [execOp, ho, hu, hq]
    simp [Instr.indexAt, Instr.sureAddr, asIntOf, run_underlying ht, run_sizeOf' he, h0, h1]
theorem PO_indexAddr_arr_row {x ix : Operand} {t e : TypeId} {N S b off : Nat} {k : IntKind} {i : Int} {d : TypeDesc} (ho : o.op = .indexAddr t x ix) (ht : P.underlying t = some (.array N e)) (he : TyF P e d S)
    (hx : ev σ.tm x = some (.ptr b off)) (hi : ev σ.tm ix = some (.lit (.int k i))) (h0 : 0 ≤ i) (h1 : i < N) : PO P ρ o σ (.ptr b (off + i.toNat * S)) := by
  refine PO_of (by rw [ho]; simp) fun g I a w hs => ?_
  have hp := hs.ev hx
  have hq := VR.lit_inv (hs.ev hi)
  generalize hu : a.eval x = p at hp
  cases hp with
  | ptr =>
    refine ⟨.pointer (some (({ block := b, off := off } : Addr).add (i.toNat * S))), ?_, by rw [add_plain _ rfl]; exact .ptr _ _⟩
    simp only [execOp, ho, hu, hq]
    simp [Instr.indexAt, Instr.sureAddr, asIntOf, run_underlying ht, run_sizeOf' he, h0, h1]
theorem PO_indexAddr_ms {x ix : Operand} {t e : TypeId} {S b off len cap : Nat} {k : IntKind} {i : Int} {d : TypeDesc} (ho : o.op = .indexAddr t x ix) (ht : P.underlying t = some (.slice e)) (he : TyF P e d S)
    (hx : ev σ.tm x = some (.ms b off S len cap)) (hi : ev σ.tm ix = some (.lit (.int k i))) (h0 : 0 ≤ i) (h1 : i < len) : PO P ρ o σ (.ptr b (off + i.toNat * S)) := by
  refine PO_of (by rw [ho]; simp) fun g I a w hs => ?_
  have hp := hs.ev hx
  have hq := VR.lit_inv (hs.ev hi)
  generalize hu : a.eval x = p at hp
  cases hp with
  | ms =>
    refine ⟨.pointer (some (({ block := b, off := off } : Addr).add (i.toNat * S))), ?_, by rw [add_plain _ rfl]; exact .ptr _ _⟩
    simp only [execOp, ho, hu, hq]
    simp [Instr.indexAt, asIntOf, run_underlying ht, run_sizeOf' he, h0, h1]
/-! ### Parts of values -/
theorem run_part' {I : Imm} {w : World} {t : TypeId} {d : TypeDesc} {n off : Nat} (ht : TyF P t d n) {cs : List AV} {vs : Array Value} (hsz : vs.size = cs.length) (hcl : ∀ a ∈ cs, AV.cell a = true)
    (hv : ∀ i a, cs[i]? = some a → VR I a (vs.getD i default)) {v : AV} (hl : loaded d n (cs.drop off) = some v) : ∃ x, (part t vs off).run P w = .ok x w ∧ VR I v x := by
  unfold loaded at hl
  unfold part
  rw [Sem.run_bind, run_isAgg ht]
  simp only [Result.andThen_ok]
  cases hd : isAggD d with
  | true =>
    rw [hd] at hl
    simp only at hl
    split at hl
    · rename_i hn
      have hn' : n ≤ (cs.drop off).length := Nat.le_of_ble_eq_true hn
      simp only [List.length_drop] at hn'
      simp only [Option.some.injEq] at hl
      subst hl
      simp only [Sem.run_bind, run_sizeOf' ht, Result.andThen_ok, if_true]
      refine ⟨_, rfl, ?_⟩
      refine .agg _ _ (by simp [hsz]; omega) (fun a ha => hcl a (List.mem_of_mem_drop (List.mem_of_mem_take ha))) fun i a ha => ?_
      rcases Nat.lt_or_ge i n with hi | hi
      · rw [List.getElem?_take, if_pos hi, List.getElem?_drop] at ha
        have hlt : off + i < cs.length := (List.getElem?_eq_some_iff.1 ha).1
        have := hv _ a ha
        rw [Array.getD_eq_getD_getElem?] at this ⊢
        rw [Array.getElem?_extract, if_pos (by omega)]
        exact this
      · rw [List.getElem?_take, if_neg (by omega)] at ha
        cases ha
    · cases hl
  | false =>
    rw [hd] at hl
    simp only at hl
    have h0 : cs[off]? = some v := by
      rw [List.head?_eq_getElem?, List.getElem?_drop] at hl; simpa using hl
    have hlt : off < cs.length := (List.getElem?_eq_some_iff.1 h0).1
    refine ⟨vs.getD off default, ?_, hv _ _ h0⟩
    simp [Array.getElem?_eq_getElem (show off < vs.size by omega), Array.getD_eq_getD_getElem?]
theorem PO_field {x : Operand} {s : TypeId} {f off n : Nat} {t : TypeId} {d : TypeDesc} {cs : List AV} {v : AV} (ho : o.op = .field s x f) (hf : FieldF P s f off t) (ht : TyF P t d n) (hx : ev σ.tm x = some (.agg cs))
    (hl : loaded d n (cs.drop off) = some v) : PO P ρ o σ v := by
  refine PO_of (by rw [ho]; simp) fun g I a w hs => ?_
  have hp := hs.ev hx
  generalize hu : a.eval x = p at hp
  cases hp with
  | agg _ vs hsz hcl hv =>
    obtain ⟨fs, fl, hus, hff, hoff, hty⟩ := hf.s
    subst hoff; subst hty
    obtain ⟨y, hr, hy⟩ := run_part' (P := P) (I := I) (w := w) ht hsz hcl hv hl
    exact ⟨y, by simp [execOp, ho, hu, Instr.field, run_underlying hus, hff, asAgg, hr], hy⟩
theorem PO_index_arr {x ix : Operand} {t e : TypeId} {N S : Nat} {cs : List AV} {k : IntKind} {i : Int} {d : TypeDesc} {v : AV} (ho : o.op = .index t x ix) (ht : P.underlying t = some (.array N e)) (he : TyF P e d S)
    (hx : ev σ.tm x = some (.agg cs)) (hi : ev σ.tm ix = some (.lit (.int k i))) (h0 : 0 ≤ i) (h1 : i < N) (hl : loaded d S (cs.drop (i.toNat * S)) = some v) : PO P ρ o σ v := by
  refine PO_of (by rw [ho]; simp) fun g I a w hs => ?_
  have hp := hs.ev hx
  have hq := VR.lit_inv (hs.ev hi)
  generalize hu : a.eval x = p at hp
  cases hp with
  | agg _ vs hsz hcl hv =>
    obtain ⟨y, hr, hy⟩ := run_part' (P := P) (I := I) (w := w) he hsz hcl hv hl
    refine ⟨y, ?_, hy⟩
    simp only [execOp, ho, hu, hq]
    simp [Instr.index, asIntOf, run_underlying ht, run_sizeOf' he, h0, h1, hr]
theorem PO_index_str {x ix : Operand} {t : TypeId} {s : ByteArray} {k : IntKind} {i : Int} {c : UInt8} (ho : o.op = .index t x ix) (ht : P.underlying t = some .string)
    (hx : ev σ.tm x = some (.lit (.string s))) (hi : ev σ.tm ix = some (.lit (.int k i))) (h0 : 0 ≤ i) (hc : s[i.toNat]? = some c) : PO P ρ o σ (.lit (.int .u8 c.toNat)) := by
  refine PO_of (by rw [ho]; simp) fun g I a w hs => ?_
  have hp := VR.lit_inv (hs.ev hx)
  have hq := VR.lit_inv (hs.ev hi)
  refine ⟨.int .u8 c.toNat, ?_, .lit _ rfl⟩
  simp only [execOp, ho, hp, hq]
  simp [Instr.index, asIntOf, run_underlying ht, h0, hc]
theorem PO_extract {x : Operand} {i : Nat} {vs : List AV} {v : AV} (ho : o.op = .extract x i) (hx : ev σ.tm x = some (.tup vs)) (hv : vs[i]? = some v) : PO P ρ o σ v := by
  refine PO_of (by rw [ho]; simp) fun g I a w hs => ?_
  have hp := hs.ev hx
  generalize hu : a.eval x = p at hp
  cases hp with
  | tup _ us hsz h =>
    have hlt : i < vs.length := (List.getElem?_eq_some_iff.1 hv).1
    refine ⟨us.getD i default, ?_, h i v hv⟩
    simp [execOp, ho, hu, Instr.extract, Array.getElem?_eq_getElem (show i < us.size by omega), Array.getD_eq_getD_getElem?]
end
end Go.AM
end
