/- A part of the proof: walks of the code and laws that they use (Am5, Am6, Am7). Conditions: as each theorem names them. -/
import Derived.Deep.AppendSrc
import Derived.Laws.CopyOwn
import Derived.Laws.CopyRow
import Derived.Test.YtdognapppnfpiaaGreatDoorC3
section
set_option linter.unusedVariables false
set_option linter.unusedSimpArgs false
namespace Go.AM
open Go.RowKit
/-! ### Changes of the world and of what is known -/
def Imm.setBlk (I : Imm) (b : Nat) (f : Nat → Option Value) : Imm := { I with cell := fun b' o => if b' = b then f o else I.cell b' o }
def Imm.setCap (I : Imm) (b c : Nat) : Imm := { I with cap := fun b' => if b' = b then some c else I.cap b' }
def Imm.setMp (I : Imm) (b : Nat) (es : List MapEntry) : Imm := { I with mp := fun b' => if b' = b then some es else I.mp b' }
theorem Imm.le_setBlk {I : Imm} {b : Nat} {f : Nat → Option Value} (h : ∀ o v, I.cell b o = some v → f o = some v) : I.le (I.setBlk b f) := by
  refine ⟨fun b' o v e => ?_, fun _ _ e => e, fun _ _ e => e⟩
  by_cases hb : b' = b
  · subst hb; simpa [Imm.setBlk] using h o v e
  · simpa [Imm.setBlk, hb] using e
theorem ObjR.keep {I I' : Imm} {w w' : World} {b : Nat} {o : AObj} (h : ObjR I w b o) (hle : I.le I') (hc : I'.cell b = I.cell b) (hm : I'.mp b = I.mp b) (hw : w'.heap[b]? = w.heap[b]?) : ObjR I' w' b o := by
  cases o with
  | row cs =>
    obtain ⟨arr, e, h1, h2, h3, h4, h5⟩ := h
    exact ⟨arr, e, hw.trans h1, h2, h3, fun i a k => (h4 i a k).mono hle, fun i => by rw [hc]; exact h5 i⟩
  | tok n S =>
    obtain ⟨arr, e, cap, h1, h2, h3, h4, h5⟩ := h
    exact ⟨arr, e, cap, hw.trans h1, hle.cap _ _ h2, h3, h4, fun i k => by rw [hc]; exact h5 i k⟩
  | map ks agg es =>
    obtain ⟨ents, clock, h1, h2, h3, h4⟩ := h
    exact ⟨ents, clock, hw.trans h1, h2, fun i p e k1 k2 => ⟨(h3 i p e k1 k2).1, (h3 i p e k1 k2).2.1, (h3 i p e k1 k2).2.2.mono hle⟩, by rw [hm]; exact h4⟩
  | mark => exact hw.trans h
  | loop r tm => exact ⟨hw.trans h.1, fun k v e => (h.2 k v e).mono hle⟩
theorem ObjR.lt {I : Imm} {w : World} {b : Nat} {o : AObj} (h : ObjR I w b o) : b < w.heap.size := by
  have key : ∀ {x}, w.heap[b]? = some x → b < w.heap.size := fun hx => (Array.getElem?_eq_some_iff.1 hx).1
  cases o with
  | row cs => obtain ⟨_, _, h1, _⟩ := h; exact key h1
  | tok n S => obtain ⟨_, _, _, h1, _⟩ := h; exact key h1
  | map ks agg es => obtain ⟨_, _, h1, _⟩ := h; exact key h1
  | mark => exact key h
  | loop r tm => exact key h.1
theorem heap_alloc_old (w : World) (o : Obj) {k : Nat} (h : k < w.heap.size) : (w.alloc o).heap[k]? = w.heap[k]? := Go.RowKit.Below.heap_alloc w o k h
theorem heap_alloc_new (w : World) (o : Obj) : (w.alloc o).heap[w.heap.size]? = some o := by
  show (w.heap.push o)[w.heap.size]? = _
  simp
theorem cell_lt {w : World} {b o : Nat} {v : Value} (h : w.cell? ⟨b, o, none⟩ = some v) : b < w.heap.size := World.block_lt_of_cell? w _ h
section
variable {g : G} {I : Imm} {σ : AS} {a : Act} {w : World}
theorem SR.sz (hs : SR g I σ a w) : g.base ≤ w.heap.size := Nat.le_trans hs.base hs.below.size
theorem SR.alloc (hs : SR g I σ a w) (o : Obj) : SR g I σ a (w.alloc o) := by
  refine ⟨hs.le, hs.below.alloc hs.sz o, hs.base, ⟨fun b o' v e => ?_, fun b ents e => ?_, fun b ob e => ?_, fun b c e => ?_⟩, hs.size, hs.slot, hs.marks⟩
  · have h1 := hs.wr.cell b o' v e
    rw [World.cell?_of_block (w := w) (heap_alloc_old w o (cell_lt h1))]; exact h1
  · obtain ⟨clock, h1⟩ := hs.wr.map b ents e
    exact ⟨clock, by rw [heap_alloc_old w o (Array.getElem?_eq_some_iff.1 h1).1]; exact h1⟩
  · obtain ⟨h1, h2⟩ := hs.wr.obj b ob e
    exact ⟨h1, h2.keep (.refl _) rfl rfl (heap_alloc_old w o h2.lt)⟩
  · have := hs.wr.capLt b c e
    simp; omega
theorem SR.drew (hs : SR g I σ a w) : SR g I σ a w.drew := by
  refine ⟨hs.le, hs.below.drew, hs.base, ⟨hs.wr.cell, hs.wr.map, fun b ob e => ?_, hs.wr.capLt⟩, hs.size, hs.slot, hs.marks⟩
  obtain ⟨h1, h2⟩ := hs.wr.obj b ob e
  exact ⟨h1, h2.keep (.refl _) rfl rfl rfl⟩
theorem SR.setBlk (hs : SR g I σ a w) (b : Nat) (f : Nat → Option Value) (h1 : ∀ o v, I.cell b o = some v → f o = some v) (h2 : ∀ o v, f o = some v → w.cell? ⟨b, o, none⟩ = some v) (hn : σ.h b = none) :
    SR g (I.setBlk b f) σ a w := by
  have hle := Imm.le_setBlk h1
  refine ⟨hs.le.trans hle, hs.below, hs.base, ⟨fun b' o v e => ?_, hs.wr.map, fun b' ob e => ?_, hs.wr.capLt⟩, hs.size, fun k v e => (hs.slot k v e).mono hle, hs.marks⟩
  · by_cases hb : b' = b
    · subst hb; exact h2 o v (by simpa [Imm.setBlk] using e)
    · exact hs.wr.cell b' o v (by simpa [Imm.setBlk, hb] using e)
  · have hb : b' ≠ b := fun e' => by subst e'; rw [hn] at e; cases e
    obtain ⟨k1, k2⟩ := hs.wr.obj b' ob e
    exact ⟨k1, k2.keep hle (by funext o; simp [Imm.setBlk, hb]) rfl rfl⟩
theorem SR.setCap (hs : SR g I σ a w) (b c : Nat) (h1 : I.cap b = none ∨ I.cap b = some c) (hb : b < w.heap.size) : SR g (I.setCap b c) σ a w ∧ I.le (I.setCap b c) := by
  have hle : I.le (I.setCap b c) := ⟨fun _ _ _ e => e, fun _ _ e => e, fun b' v e => by
    by_cases hb : b' = b
    · subst hb
      rcases h1 with h1 | h1
      · rw [h1] at e; cases e
      · rw [h1] at e; simpa [Imm.setCap] using e
    · simpa [Imm.setCap, hb] using e⟩
  refine ⟨⟨hs.le.trans hle, hs.below, hs.base, ⟨hs.wr.cell, hs.wr.map, fun b' ob e => ?_, fun b' c' e => ?_⟩, hs.size, fun k v e => (hs.slot k v e).mono hle, hs.marks⟩, hle⟩
  · obtain ⟨k1, k2⟩ := hs.wr.obj b' ob e
    exact ⟨k1, k2.keep hle rfl rfl rfl⟩
  · by_cases hb' : b' = b
    · subst hb'; exact hb
    · exact hs.wr.capLt b' c' (by simpa [Imm.setCap, hb'] using e)
theorem SR.setMp (hs : SR g I σ a w) (b : Nat) (es : List MapEntry) (h1 : I.mp b = none) {clock : Nat} (h2 : w.heap[b]? = some (.map es.toArray clock)) (hn : σ.h b = none) : SR g (I.setMp b es) σ a w ∧ I.le (I.setMp b es) := by
  have hle : I.le (I.setMp b es) := ⟨fun _ _ _ e => e, fun b' v e => by
    by_cases hb : b' = b
    · subst hb; rw [h1] at e; cases e
    · simpa [Imm.setMp, hb] using e, fun _ _ e => e⟩
  refine ⟨⟨hs.le.trans hle, hs.below, hs.base, ⟨hs.wr.cell, fun b' ents e => ?_, fun b' ob e => ?_, hs.wr.capLt⟩, hs.size, fun k v e => (hs.slot k v e).mono hle, hs.marks⟩, hle⟩
  · by_cases hb : b' = b
    · subst hb
      have : es = ents := by simpa [Imm.setMp] using e
      subst this
      exact ⟨clock, h2⟩
    · exact hs.wr.map b' ents (by simpa [Imm.setMp, hb] using e)
  · have hb : b' ≠ b := fun e' => by subst e'; rw [hn] at e; cases e
    obtain ⟨k1, k2⟩ := hs.wr.obj b' ob e
    exact ⟨k1, k2.keep hle rfl (by simp [Imm.setMp, hb]) rfl⟩
theorem SR.setObj (hs : SR g I σ a w) (b : Nat) (o : AObj) (hb : g.base ≤ b) (ho : ObjR I w b o) (hm : ∀ o, σ.h b = some o → o.locked = false) : SR g I (σ.setH (σ.h.upd b (some o))) a w := by
  refine ⟨hs.le, hs.below, hs.base, ⟨hs.wr.cell, hs.wr.map, fun b' ob e => ?_, hs.wr.capLt⟩, hs.size, hs.slot, ⟨hs.marks.defs, hs.marks.nodup, fun r hr => ?_, fun r o hr hl => ?_, hs.marks.apart⟩⟩
  case refine_2 =>
    have := hs.marks.here r hr
    have hne : r ≠ b := fun e => by have := hm _ (e ▸ this); cases this
    simpa [AS.setH, Heap.upd, hne] using this
  case refine_3 =>
    obtain ⟨o', this, hsim⟩ := hs.marks.keep r o hr hl
    have hne : r ≠ b := fun e => by have := hm _ (e ▸ this); rw [(AObj.sim_locked hsim).2] at this; cases this
    exact ⟨o', by simpa [AS.setH, Heap.upd, hne] using this, hsim⟩
  by_cases hbb : b' = b
  · subst hbb
    have : o = ob := by simpa [AS.setH] using e
    subst this
    exact ⟨hb, ho⟩
  · exact hs.wr.obj b' ob (by simpa [AS.setH, Heap.upd, hbb] using e)
theorem SR.delObj (hs : SR g I σ a w) (b : Nat) (hm : ∀ o, σ.h b = some o → o.locked = false) : SR g I (σ.setH (σ.h.upd b none)) a w := by
  refine ⟨hs.le, hs.below, hs.base, ⟨hs.wr.cell, hs.wr.map, fun b' ob e => ?_, hs.wr.capLt⟩, hs.size, hs.slot, ⟨hs.marks.defs, hs.marks.nodup, fun r hr => ?_, fun r o hr hl => ?_, hs.marks.apart⟩⟩
  case refine_2 =>
    have := hs.marks.here r hr
    have hne : r ≠ b := fun e => by have := hm _ (e ▸ this); cases this
    simpa [AS.setH, Heap.upd, hne] using this
  case refine_3 =>
    obtain ⟨o', this, hsim⟩ := hs.marks.keep r o hr hl
    have hne : r ≠ b := fun e => by have := hm _ (e ▸ this); rw [(AObj.sim_locked hsim).2] at this; cases this
    exact ⟨o', by simpa [AS.setH, Heap.upd, hne] using this, hsim⟩
  by_cases hbb : b' = b
  · subst hbb
    simp [AS.setH] at e
  · exact hs.wr.obj b' ob (by simpa [AS.setH, Heap.upd, hbb] using e)
theorem SR.setRow (hs : SR g I σ a w) (b : Nat) {old : Array Value} {e : TypeId} (hw : w.heap[b]? = some (.cells old e (0, 0))) (arr : Array Value) (hb : g.base ≤ b) (hn : σ.h b = none) (hi : ∀ o v, I.cell b o = some v → arr[o]? = some v) :
    SR g I σ a (w.setRow b arr) := by
  refine ⟨hs.le, ⟨below_setRow hs.below.toBelow hb arr, hs.below.drawn⟩, hs.base, ⟨fun b' o v k => ?_, fun b' ents k => ?_, fun b' ob k => ?_, fun b' c k => ?_⟩, hs.size, hs.slot, hs.marks⟩
  · by_cases hbb : b' = b
    · subst hbb; rw [cell_setRow_same w b' o old arr e (0, 0) hw]; exact hi o v k
    · rw [cell_setRow_other w b arr _ (by simpa using hbb)]; exact hs.wr.cell b' o v k
  · obtain ⟨clock, h1⟩ := hs.wr.map b' ents k
    have hbb : b' ≠ b := fun e' => by subst e'; rw [hw] at h1; cases h1
    exact ⟨clock, by rw [setRow_other w b b' arr hbb]; exact h1⟩
  · have hbb : b' ≠ b := fun e' => by subst e'; rw [hn] at k; cases k
    obtain ⟨k1, k2⟩ := hs.wr.obj b' ob k
    exact ⟨k1, k2.keep (.refl _) rfl rfl (setRow_other w b b' arr hbb)⟩
  · have := hs.wr.capLt b' c k
    simpa using this
theorem heap_setMapObj (w : World) (b : Nat) (o : Obj) {k : Nat} (h : k ≠ b) : (w.heap.setIfInBounds b o)[k]? = w.heap[k]? := by
  rw [Array.getElem?_setIfInBounds, if_neg (Ne.symm h)]
theorem SR.setMapObj (hs : SR g I σ a w) (b : Nat) {es0 : Array MapEntry} {c0 : Nat} (hw : w.heap[b]? = some (.map es0 c0)) (o : Obj) (hb : g.base ≤ b) (hn : σ.h b = none) (hm : I.mp b = none) : SR g I σ a { w with heap := w.heap.setIfInBounds b o } := by
  have hcb : ∀ b' x v, w.cell? ⟨b', x, none⟩ = some v → b' ≠ b := fun b' x v e e' => by subst e'; simp [World.cell?, hw] at e
  refine ⟨hs.le, hs.below.trans ⟨⟨rfl, rfl, rfl, by simp, fun k hk => heap_setMapObj w b o (by omega)⟩, Nat.le_refl _⟩, hs.base, ⟨fun b' x v k => ?_, fun b' ents k => ?_, fun b' ob k => ?_, fun b' c k => ?_⟩, hs.size, hs.slot, hs.marks⟩
  · have h1 := hs.wr.cell b' x v k
    exact (World.cell?_of_block (w := w) (a := ⟨b', x, none⟩) (heap_setMapObj w b o (hcb _ _ _ h1))).trans h1
  · obtain ⟨clock, h1⟩ := hs.wr.map b' ents k
    have hbb : b' ≠ b := fun e' => by subst e'; rw [hm] at k; cases k
    exact ⟨clock, (heap_setMapObj w b o hbb).trans h1⟩
  · have hbb : b' ≠ b := fun e' => by subst e'; rw [hn] at k; cases k
    obtain ⟨k1, k2⟩ := hs.wr.obj b' ob k
    exact ⟨k1, k2.keep (.refl _) rfl rfl (heap_setMapObj w b o hbb)⟩
  · have := hs.wr.capLt b' c k
    simpa using this
theorem I_new (hs : SR g I σ a w) (o : Nat) : I.cell w.heap.size o = none := by
  cases h : I.cell w.heap.size o with
  | none => rfl
  | some v => have := cell_lt (hs.wr.cell _ _ _ h); omega
theorem h_new (hs : SR g I σ a w) : σ.h w.heap.size = none := by
  cases h : σ.h w.heap.size with
  | none => rfl
  | some v => have := (hs.wr.obj _ _ h).2.lt; omega
theorem cap_new (hs : SR g I σ a w) : I.cap w.heap.size = none := by
  cases h : I.cap w.heap.size with
  | none => rfl
  | some v => have := hs.wr.capLt _ _ h; omega
theorem mp_new (hs : SR g I σ a w) : I.mp w.heap.size = none := by
  cases h : I.mp w.heap.size with
  | none => rfl
  | some v => obtain ⟨c, h1⟩ := hs.wr.map _ _ h; have := (Array.getElem?_eq_some_iff.1 h1).1; omega
theorem SR.new_imm (hs : SR g I σ a w) (arr : Array Value) (e : TypeId) : SR g (I.setBlk w.heap.size (arr[·]?)) σ a (w.alloc (.cells arr e)) ∧ I.le (I.setBlk w.heap.size (arr[·]?)) := by
  have h1 : ∀ o v, I.cell w.heap.size o = some v → arr[o]? = some v := fun o v k => by rw [I_new hs] at k; cases k
  exact ⟨(hs.alloc _).setBlk _ _ h1 (fun o v k => by
    have e1 := heap_alloc_new w (.cells arr e)
    simp only [World.cell?, e1]
    simpa using k) (h_new hs), Imm.le_setBlk h1⟩
end
/-! ### A value's cells -/
def acells : AV → List AV
  | .agg cs => cs
  | v => [v]
def acell1 (v : AV) : Bool := match v with | .agg _ => true | v => v.cell
theorem vr_cells {I : Imm} {v : AV} {u : Value} (h : VR I v u) (h1 : acell1 v = true) : u.cells.size = (acells v).length ∧ (∀ a ∈ acells v, AV.cell a = true) ∧ ∀ i a, (acells v)[i]? = some a → VR I a (u.cells.getD i default) := by
  have one : ∀ {v : AV} {u : Value}, VR I v u → v.cell = true → u.cells = #[u] := by
    intro v u h hc
    have := h.oneCell hc
    cases u <;> first | rfl | (simp [Value.oneCell'] at this)
  cases v with
  | agg cs =>
    cases h with
    | agg _ vs hsz hcl hv => exact ⟨hsz, hcl, hv⟩
  | tup => simp [acell1, AV.cell] at h1
  | junk => simp [acell1, AV.cell] at h1
  | _ =>
    rw [one h h1]
    refine ⟨rfl, ?_, ?_⟩
    · intro a ha
      simp only [acells, List.mem_singleton] at ha
      subst ha; exact h1
    · intro i a ha
      cases i with
      | zero =>
        simp only [acells, List.getElem?_cons_zero, Option.some.injEq] at ha
        subst ha; exact h
      | succ i => simp [acells] at ha
section
variable {P : Program} {ρ : Option Nat} {Q : Exit → AS → Prop} {σ : AS} {o : Oper} {ops : Array Oper} {l : List Oper}
theorem PO_box {x : Operand} {e : TypeId} {v : AV} (ho : o.op = .box e x) (hx : ev σ.tm x = some v) (h1 : acell1 v = true) : PO P ρ o σ (.ip (acells v)) := by
  intro g I a w hs
  have hv := hs.ev hx
  obtain ⟨k1, k2, k3⟩ := vr_cells hv h1
  obtain ⟨hs', hle⟩ := hs.new_imm (a.eval x).cells e
  refine wpIn_of_run' (w' := w.alloc (.cells (a.eval x).cells e)) (u := .pointer (some ⟨w.heap.size, 0, none⟩)) (by rw [ho]; simp) (by simp [execOp, ho, Instr.box, newVar, newRow]) ⟨_, _, hle, rfl, ?_, hs'⟩
  refine .ip _ _ (fun j => (a.eval x).cells.getD j default) rfl k2 (fun j b hb => ?_) (fun j b hb => (k3 j b hb).mono hle)
  have hlt : j < (a.eval x).cells.size := by rw [k1]; exact (List.getElem?_eq_some_iff.1 hb).1
  simp [Imm.setBlk, Array.getElem?_eq_getElem hlt, Array.getD_eq_getD_getElem?]
theorem MO_box {x : Operand} {e : TypeId} {v : AV} (ho : o.op = .box e x) (hx : ev σ.tm x = some v) (h1 : acell1 v = true) : MO P ρ o σ (fun u h' => ∃ b, σ.h b = none ∧ u = .ptr b 0 ∧ h' = σ.h.upd b (some (.row (acells v)))) := by
  intro g I a w hs
  have hv := hs.ev hx
  obtain ⟨k1, k2, k3⟩ := vr_cells hv h1
  refine wpIn_of_run' (w' := w.alloc (.cells (a.eval x).cells e)) (u := .pointer (some ⟨w.heap.size, 0, none⟩)) (by rw [ho]; simp) (by simp [execOp, ho, Instr.box, newVar, newRow]) ⟨I, _, .ptr w.heap.size 0, _, .refl _, rfl, .ptr _ _, ?_, w.heap.size, h_new hs, rfl, rfl⟩
  exact (hs.alloc _).setObj _ _ hs.sz ⟨_, e, heap_alloc_new _ _, by omega, k2, k3, I_new hs⟩ (fun o e => by rw [h_new hs] at e; cases e)
structure ZeroF (P : Program) (t : TypeId) (zs : List AV) : Prop where
  z : ∃ i z, P.info? t = some i ∧ i.zero = some z ∧ acells (ofConst z) = zs ∧ acell1 (ofConst z) = true
theorem run_zero {t : TypeId} {zs : List AV} (h : ZeroF P t zs) (I : Imm) : ∃ z : Value, (∀ w, (zeroValue t).run P w = .ok z w) ∧ z.cells.size = zs.length ∧ (∀ a ∈ zs, AV.cell a = true) ∧ ∀ i a, zs[i]? = some a → VR I a (z.cells.getD i default) := by
  obtain ⟨i, z, h1, h2, rfl, h4⟩ := h.z
  refine ⟨z, fun w => by simp [zeroValue, typeInfo, h1, h2], ?_⟩
  exact vr_cells (vr_ofConst I z) h4
theorem MO_alloc {e : TypeId} {zs : List AV} (ho : o.op = .alloc e) (hz : ZeroF P e zs) : MO P ρ o σ (fun u h' => ∃ b, σ.h b = none ∧ u = .ptr b 0 ∧ h' = σ.h.upd b (some (.row zs))) := by
  intro g I a w hs
  obtain ⟨z, hr, k1, k2, k3⟩ := run_zero hz I
  refine wpIn_of_run' (w' := w.alloc (.cells z.cells e)) (u := .pointer (some ⟨w.heap.size, 0, none⟩)) (by rw [ho]; simp) (by simp [execOp, ho, Instr.alloc, newVar, newRow, hr]) ⟨I, _, .ptr w.heap.size 0, _, .refl _, rfl, .ptr _ _, ?_, w.heap.size, h_new hs, rfl, rfl⟩
  exact (hs.alloc _).setObj _ _ hs.sz ⟨_, e, heap_alloc_new _ _, by omega, k2, k3, I_new hs⟩ (fun o e => by rw [h_new hs] at e; cases e)
def setCells (cs : List AV) (off : Nat) (vs : List AV) : List AV := cs.take off ++ vs ++ cs.drop (off + vs.length)
theorem MO_store {x y : Operand} {t : TypeId} {d : TypeDesc} {n b off : Nat} {cs : List AV} {v : AV} (ho : o.op = .store t x y) (ht : TyF P t d n) (hx : ev σ.tm x = some (.ptr b off)) (hy : ev σ.tm y = some v) (hb : σ.h b = some (.row cs))
    (h1 : acell1 v = true) (hn : (acells v).length = n) (hle : off + n ≤ cs.length) : MO P ρ o σ (fun u h' => u = .junk ∧ h' = σ.h.upd b (some (.row (setCells cs off (acells v))))) := by
  intro g I a w hs
  have hv := hs.ev hy
  have hp := hs.ev hx
  generalize hu : a.eval x = p at hp
  cases hp with
  | ptr =>
    obtain ⟨k1, k2, k3⟩ := vr_cells hv h1
    obtain ⟨hbase, arr, e, hw, hsz, hcl, hvr, hfree⟩ := hs.wr.obj b _ hb
    have hcells : (a.eval y).cells.toList.length = n := by rw [Array.length_toList, k1, hn]
    have hone : ∀ u ∈ (a.eval y).cells.toList, u.oneCell' = true := by
      intro u hu'
      obtain ⟨i, hi, rfl⟩ := List.mem_iff_getElem.1 hu'
      have hi' : i < (acells v).length := by omega
      have := k3 i _ (List.getElem?_eq_getElem hi')
      have h2 := this.oneCell (k2 _ (List.getElem_mem hi'))
      simpa [Array.getD_eq_getD_getElem?, Array.getElem?_eq_getElem (show i < (a.eval y).cells.size by simpa using hi)] using h2
    have hst := run_storeCells_at P b off e (a.eval y).cells.toList 0 arr w hw (by omega) hone
    simp only [Nat.add_zero] at hst
    have hrun : (execOp a.eval o).run P w = .ok .skip (w.setRow b (arr.toList.take off ++ (a.eval y).cells.toList ++ arr.toList.drop (off + (a.eval y).cells.toList.length)).toArray) := by
      have hsz' : (a.eval y).cells.size = n := by simpa using hcells
      simp [execOp, ho, hu, Instr.storeAt, Instr.sureAddr, storeVar, run_sizeOf' ht, hsz', hst]
    refine wpIn_of_skip (by rw [ho]; simp) hrun ⟨I, undef, .junk, _, .refl _, rfl, .junk _, ?_, rfl, rfl⟩
    have s1 := (hs.delObj b (fun o e => by rw [hb] at e; cases e; rfl)).setRow b hw (arr.toList.take off ++ (a.eval y).cells.toList ++ arr.toList.drop (off + (a.eval y).cells.toList.length)).toArray hbase (by simp [AS.setH]) (fun o v k => by rw [hfree] at k; cases k)
    have hlen : (arr.toList.take off ++ (a.eval y).cells.toList ++ arr.toList.drop (off + (a.eval y).cells.toList.length)).length = arr.size := by simp; omega
    have s2 := s1.setObj b (.row (setCells cs off (acells v))) hbase ⟨_, e, setRow_heap w b arr _ e (0, 0) hw, by simp [setCells]; omega, ?_, ?_, hfree⟩ (fun o e => by simp [AS.setH] at e)
    · have : ((σ.setH (σ.h.upd b none)).setH ((σ.setH (σ.h.upd b none)).h.upd b (some (.row (setCells cs off (acells v)))))) = σ.setH (σ.h.upd b (some (.row (setCells cs off (acells v))))) := by
        simp only [AS.setH]
        congr 1
        funext k
        simp only [Heap.upd]
        split <;> rfl
      rw [this] at s2
      exact s2
    · intro x hx'
      simp only [setCells, List.mem_append] at hx'
      rcases hx' with (hx' | hx') | hx'
      · exact hcl x (List.mem_of_mem_take hx')
      · exact k2 x hx'
      · exact hcl x (List.mem_of_mem_drop hx')
    · intro i x hx'
      simp only [setCells] at hx'
      rw [Array.getD_eq_getD_getElem?, List.getElem?_toArray]
      by_cases c1 : i < off
      · rw [List.append_assoc, List.getElem?_append_left (by simp; omega), List.getElem?_take, if_pos c1] at hx'
        rw [List.append_assoc, List.getElem?_append_left (by simp; omega), List.getElem?_take, if_pos c1]
        have := hvr i x hx'
        rwa [Array.getD_eq_getD_getElem?, ← Array.getElem?_toList] at this
      · by_cases c2 : i < off + n
        · rw [List.append_assoc, List.getElem?_append_right (by simp; omega), List.getElem?_append_left (by simp; omega)] at hx'
          rw [List.append_assoc, List.getElem?_append_right (by simp; omega), List.getElem?_append_left (by simp; omega)]
          have e1 : (cs.take off).length = off := by simp; omega
          have e2 : (arr.toList.take off).length = off := by simp; omega
          rw [e1] at hx'; rw [e2]
          have := k3 _ x hx'
          rwa [Array.getD_eq_getD_getElem?, ← Array.getElem?_toList] at this
        · rw [List.getElem?_append_right (by simp; omega), List.getElem?_drop] at hx'
          rw [List.getElem?_append_right (by simp; omega), List.getElem?_drop]
          have e1 : off + (acells v).length + (i - (cs.take off ++ acells v).length) = i := by simp; omega
          have e2 : off + (a.eval y).cells.toList.length + (i - (arr.toList.take off ++ (a.eval y).cells.toList).length) = i := by simp at hcells ⊢; omega
          rw [e1] at hx'; rw [e2]
          have := hvr i x hx'
          rwa [Array.getD_eq_getD_getElem?, ← Array.getElem?_toList] at this
/-! ### What is no longer written becomes a tree -/
inductive Frz (b : Nat) (cs : List AV) : AV → AV → Prop
  | refl (v : AV) : Frz b cs v v
  | ptr (off : Nat) : Frz b cs (.ptr b off) (.ip (cs.drop off))
  | ms (off S len cap : Nat) (es : List (List AV)) (hl : es.length = len) (he : ∀ e ∈ es, e.length = S) (hf : ∀ i e j a, es[i]? = some e → e[j]? = some a → cs[off + i * S + j]? = some a) (hc : len ≤ cap) : Frz b cs (.ms b off S len cap) (.sl .any S es)
  | fn (f : Fn) {fi fi' ca ca' : List AV} (l1 : fi.length = fi'.length) (l2 : ca.length = ca'.length) (h1 : ∀ (i : Nat) (x y : AV), fi[i]? = some x → fi'[i]? = some y → Frz b cs x y) (h2 : ∀ (i : Nat) (x y : AV), ca[i]? = some x → ca'[i]? = some y → Frz b cs x y) :
    Frz b cs (.fn f fi ca) (.fn f fi' ca')
theorem Frz.vr {I : Imm} {b : Nat} {cs : List AV} {u : Nat → Value} (hc : ∀ j a, cs[j]? = some a → I.cell b j = some (u j)) (hcl : ∀ a ∈ cs, AV.cell a = true) (hv : ∀ j a, cs[j]? = some a → VR I a (u j))
    {x y : AV} (h : Frz b cs x y) : ∀ {v : Value}, VR I x v → VR I y v := by
  induction h with
  | refl => exact fun h => h
  | ptr off =>
    intro v h
    cases h
    refine .ip _ _ (fun j => u (off + j)) rfl (fun a ha => hcl a (List.mem_of_mem_drop ha)) (fun j a ha => ?_) (fun j a ha => ?_)
    · rw [List.getElem?_drop] at ha; exact hc _ _ ha
    · rw [List.getElem?_drop] at ha; exact hv _ _ ha
  | ms off S len cap es hl he hf hlc =>
    intro v h
    cases h
    subst hl
    refine .sl _ _ _ _ _ (fun i j => u (off + i * S + j)) ⟨.inr rfl, hlc, trivial⟩ he (fun e he' a ha => ?_) (fun i e j a h1 h2 => hc _ _ (hf i e j a h1 h2)) (fun i e j a h1 h2 => hv _ _ (hf i e j a h1 h2))
    obtain ⟨i, hi, rfl⟩ := List.mem_iff_getElem.1 he'
    obtain ⟨j, hj, rfl⟩ := List.mem_iff_getElem.1 ha
    exact hcl _ (List.mem_of_getElem? (hf i _ j _ (List.getElem?_eq_getElem hi) (List.getElem?_eq_getElem hj)))
  | @fn f fi fi' ca ca' l1 l2 h1 h2 ih1 ih2 =>
    intro v h
    cases h with
    | fn _ _ _ vf vc hf hc' k1 k2 =>
      refine .fn _ _ _ _ _ (by omega) (by omega) (fun i y hy => ?_) (fun i y hy => ?_)
      · have hlt : i < fi.length := by have := (List.getElem?_eq_some_iff.1 hy).1; omega
        exact ih1 i _ y (List.getElem?_eq_getElem hlt) hy (k1 i _ (List.getElem?_eq_getElem hlt))
      · have hlt : i < ca.length := by have := (List.getElem?_eq_some_iff.1 hy).1; omega
        exact ih2 i _ y (List.getElem?_eq_getElem hlt) hy (k2 i _ (List.getElem?_eq_getElem hlt))
theorem ghost_freeze {b : Nat} {cs : List AV} {tm' : List (Nat × AV)} (hb : σ.h b = some (.row cs)) (ht : ∀ k y, look tm' k = some y → ∃ x, look σ.tm k = some x ∧ Frz b cs x y) : Ghost σ { σ with tm := tm', h := σ.h.upd b none } := by
  intro g I a w hs
  obtain ⟨hbase, arr, e, hw, hsz, hcl, hvr, hfree⟩ := hs.wr.obj b _ hb
  have h1 : ∀ o v, I.cell b o = some v → (if o < cs.length then arr[o]? else none) = some v := fun o v k => by rw [hfree] at k; cases k
  have s1 := (hs.delObj b (fun o e => by rw [hb] at e; cases e; rfl)).setBlk b (fun o => if o < cs.length then arr[o]? else none) h1 (fun o v k => by
    split at k
    · simpa [World.cell?, hw] using k
    · cases k) (by simp [AS.setH])
  refine ⟨_, ⟨s1.le, s1.below, s1.base, s1.wr, s1.size, fun k y hy => ?_, ⟨s1.marks.defs, s1.marks.nodup, s1.marks.here, s1.marks.keep, s1.marks.apart⟩⟩⟩
  obtain ⟨x, hx, hf⟩ := ht k y hy
  refine hf.vr (u := fun j => arr.getD j default) (fun j a ha => ?_) hcl (fun j a ha => (hvr j a ha).mono (Imm.le_setBlk h1)) (s1.slot k x hx)
  have hlt : j < cs.length := (List.getElem?_eq_some_iff.1 ha).1
  simp [Imm.setBlk, hlt, Array.getElem?_eq_getElem (show j < arr.size by omega), Array.getD_eq_getD_getElem?]
end
end Go.AM
end
section
set_option linter.unusedVariables false
set_option linter.unusedSimpArgs false
namespace Go.AM
open Go.RowKit
theorem map_range0 (f : Nat → Value) : (Array.range 0).map f = #[] := Array.eq_empty_of_size_eq_zero (by simp)
/-! ### Literals -/
def afill (place : Nat → Option (Nat × Nat)) (cs : List AV) : List (Nat × AV) → Option (List AV)
  | [] => some cs
  | (i, v) :: r => match place i with
    | none => none
    | some (off, size) => match Nat.beq (acells v).length size && Nat.ble (off + size) cs.length && acell1 v with
      | true => afill place (setCells cs off (acells v)) r
      | false => none
theorem foldl_set (vs : List Value) : ∀ (off k : Nat) (cells : Array Value), (off + k + vs.length ≤ cells.size) →
    ((vs.zipIdx k).foldl (fun cs (cj : Value × Nat) => cs.setIfInBounds (off + cj.2) cj.1) cells) = (cells.toList.take (off + k) ++ vs ++ cells.toList.drop (off + k + vs.length)).toArray := by
  induction vs with
  | nil => intro off k cells h; simp
  | cons v vs ih =>
    intro off k cells h
    simp only [List.length_cons] at h
    simp only [List.zipIdx_cons, List.foldl_cons]
    rw [ih off (k + 1) _ (by simp; omega)]
    apply Array.ext'
    simp only [List.toList_toArray, Array.toList_setIfInBounds]
    apply List.ext_getElem?
    intro i
    simp only [List.append_assoc, List.getElem?_append, List.length_take, List.length_set, Array.length_toList, List.getElem?_take, List.getElem?_drop, List.length_append, List.length_cons, List.getElem?_cons]
    simp only [List.getElem?_set, Array.length_toList]
    grind
theorem fill_run {I : Imm} {place : Nat → Option (Nat × Nat)} : ∀ (parts : List (Nat × AV)) (vparts : List (Nat × Value)) (cs : List AV) (cells : Array Value) (rs : List AV), afill place cs parts = some rs →
    vparts.length = parts.length → (∀ (i : Nat) (p : Nat × AV) (q : Nat × Value), parts[i]? = some p → vparts[i]? = some q → q.1 = p.1 ∧ VR I p.2 q.2) →
    cells.size = cs.length → (∀ a ∈ cs, AV.cell a = true) → (∀ i a, cs[i]? = some a → VR I a (cells.getD i default)) →
    ∃ out, Instr.fill place cells vparts = some out ∧ out.size = rs.length ∧ (∀ a ∈ rs, AV.cell a = true) ∧ (∀ i a, rs[i]? = some a → VR I a (out.getD i default)) := by
  intro parts
  induction parts with
  | nil =>
    intro vparts cs cells rs h hl hp hsz hcl hv
    obtain rfl := List.eq_nil_of_length_eq_zero (by simpa using hl)
    simp only [afill, Option.some.injEq] at h
    subst h
    exact ⟨cells, rfl, hsz, hcl, hv⟩
  | cons p parts ih =>
    intro vparts cs cells rs h hl hp hsz hcl hv
    match vparts, hl with
    | q :: vparts, hl =>
      obtain ⟨i, v⟩ := p
      obtain ⟨i', u⟩ := q
      obtain ⟨e1, hvu⟩ := hp 0 _ _ rfl rfl
      simp only at e1 hvu
      subst e1
      simp only [afill] at h
      split at h
      · cases h
      · rename_i off size hpl
        split at h
        · rename_i hc
          simp only [Bool.and_eq_true] at hc
          obtain ⟨⟨c1, c2⟩, c3⟩ := hc
          have c1 := Nat.eq_of_beq_eq_true c1
          have c2 := Nat.le_of_ble_eq_true c2
          obtain ⟨k1, k2, k3⟩ := vr_cells hvu c3
          have hcs : u.cells.size = size := by omega
          have hnew := foldl_set u.cells.toList off 0 cells (by simp; omega)
          simp only [Nat.add_zero, Array.length_toList] at hnew
          have hz : (u.cells.zipIdx.foldl (fun cs (x : Value × Nat) => cs.setIfInBounds (off + x.2) x.1) cells) = (cells.toList.take off ++ u.cells.toList ++ cells.toList.drop (off + u.cells.size)).toArray := by
            rw [← hnew, ← Array.foldl_toList, Array.toList_zipIdx]
          have hlen : (cells.toList.take off ++ u.cells.toList ++ cells.toList.drop (off + u.cells.size)).length = cells.size := by simp; omega
          obtain ⟨out, o1, o2, o3, o4⟩ := ih vparts (setCells cs off (acells v)) (cells.toList.take off ++ u.cells.toList ++ cells.toList.drop (off + u.cells.size)).toArray rs h (by simpa using hl)
            (fun j p q h1 h2 => hp (j + 1) p q (by simpa using h1) (by simpa using h2)) (by rw [List.size_toArray, hlen]; simp [setCells]; omega)
            (by
              intro x hx
              simp only [setCells, List.mem_append] at hx
              rcases hx with (hx | hx) | hx
              · exact hcl x (List.mem_of_mem_take hx)
              · exact k2 x hx
              · exact hcl x (List.mem_of_mem_drop hx))
            (by
              intro j x hx
              simp only [setCells] at hx
              rw [Array.getD_eq_getD_getElem?, List.getElem?_toArray]
              by_cases d1 : j < off
              · rw [List.append_assoc, List.getElem?_append_left (by simp; omega), List.getElem?_take, if_pos d1] at hx
                rw [List.append_assoc, List.getElem?_append_left (by simp; omega), List.getElem?_take, if_pos d1]
                have := hv j x hx
                rwa [Array.getD_eq_getD_getElem?, ← Array.getElem?_toList] at this
              · by_cases d2 : j < off + size
                · rw [List.append_assoc, List.getElem?_append_right (by simp; omega), List.getElem?_append_left (by simp; omega)] at hx
                  rw [List.append_assoc, List.getElem?_append_right (by simp; omega), List.getElem?_append_left (by simp; omega)]
                  have e1 : (cs.take off).length = off := by simp; omega
                  have e2 : (cells.toList.take off).length = off := by simp; omega
                  rw [e1] at hx; rw [e2]
                  have := k3 _ x hx
                  rwa [Array.getD_eq_getD_getElem?, ← Array.getElem?_toList] at this
                · rw [List.getElem?_append_right (by simp; omega), List.getElem?_drop] at hx
                  rw [List.getElem?_append_right (by simp; omega), List.getElem?_drop]
                  have e1 : off + (acells v).length + (j - (cs.take off ++ acells v).length) = j := by simp; omega
                  have e2 : off + u.cells.size + (j - (cells.toList.take off ++ u.cells.toList).length) = j := by simp; omega
                  rw [e1] at hx; rw [e2]
                  have := hv j x hx
                  rwa [Array.getD_eq_getD_getElem?, ← Array.getElem?_toList] at this)
          refine ⟨out, ?_, o2, o3, o4⟩
          simp only [Instr.fill, hpl]
          rw [if_neg (by simp; omega)]
          simp only [hz]
          exact o1
        · cases h
def aparts (tm : List (Nat × AV)) : List (Nat × Operand) → Option (List (Nat × AV))
  | [] => some []
  | (i, x) :: r => match ev tm x, aparts tm r with
    | some v, some vs => some ((i, v) :: vs)
    | _, _ => none
theorem aparts_vr {g : G} {I : Imm} {σ : AS} {a : Act} {w : World} (hs : SR g I σ a w) : ∀ (ps : List (Nat × Operand)) (vs : List (Nat × AV)), aparts σ.tm ps = some vs →
    (ps.map fun p => (p.1, a.eval p.2)).length = vs.length ∧ ∀ (i : Nat) (p : Nat × AV) (q : Nat × Value), vs[i]? = some p → (ps.map fun p => (p.1, a.eval p.2))[i]? = some q → q.1 = p.1 ∧ VR I p.2 q.2 := by
  intro ps
  induction ps with
  | nil => intro vs h; simp only [aparts, Option.some.injEq] at h; subst h; simp
  | cons p ps ih =>
    intro vs h
    obtain ⟨i, x⟩ := p
    simp only [aparts] at h
    split at h
    · rename_i v ws hv hws
      simp only [Option.some.injEq] at h
      subst h
      obtain ⟨h1, h2⟩ := ih ws hws
      refine ⟨by simpa using h1, fun j p q e1 e2 => ?_⟩
      cases j with
      | zero =>
        simp only [List.getElem?_cons_zero, Option.some.injEq, List.map_cons] at e1 e2
        subst e1; subst e2
        exact ⟨rfl, hs.ev hv⟩
      | succ j => exact h2 j p q (by simpa using e1) (by simpa using e2)
    · cases h
structure PlaceF (P : Program) (t : TypeId) (pl : List (Nat × Nat)) : Prop where
  u : ∃ fs, P.underlying t = some (.struct fs) ∧ ∀ w : World, (fs.mapM fun (f : Field) => (do pure (f.offset, ← sizeOf f.type) : Sem (Nat × Nat))).run P w = .ok pl.toArray w
section
variable {P : Program} {ρ : Option Nat} {Q : Exit → AS → Prop} {σ : AS} {o : Oper} {ops : Array Oper} {l : List Oper}
theorem PO_build {t : TypeId} {parts : Array (Nat × Operand)} {zs : List AV} {pl : List (Nat × Nat)} {vs : List (Nat × AV)} {rs : List AV} (ho : o.op = .build t parts) (hz : ZeroF P t zs) (hp : PlaceF P t pl)
    (hv : aparts σ.tm parts.toList = some vs) (hr : afill (pl[·]?) zs vs = some rs) : PO P ρ o σ (.agg rs) := by
  refine PO_of (by rw [ho]; simp) fun g I a w hs => ?_
  obtain ⟨fs, hu, hm⟩ := hp.u
  obtain ⟨z, z1, z2, z3, z4⟩ := run_zero hz I
  obtain ⟨p1, p2⟩ := aparts_vr hs _ _ hv
  obtain ⟨out, o1, o2, o3, o4⟩ := fill_run (I := I) (place := (pl[·]?)) vs _ zs z.cells rs hr p1 p2 z2 z3 z4
  refine ⟨.agg out, ?_, .agg _ _ o2 o3 o4⟩
  simp only [execOp, ho, Instr.build, Sem.run_bind, z1, Result.andThen_ok, run_underlying hu, hm]
  have e : (parts.map fun (x : Nat × Operand) => (x.1, a.eval x.2)).toList = parts.toList.map fun p => (p.1, a.eval p.2) := by simp
  simp only [e, List.getElem?_toArray, o1]
  rfl
theorem PO_build_arr {t e : TypeId} {N S : Nat} {d : TypeDesc} {parts : Array (Nat × Operand)} {zs : List AV} {vs : List (Nat × AV)} {rs : List AV} (ho : o.op = .build t parts) (hz : ZeroF P t zs) (ht : P.underlying t = some (.array N e)) (he : TyF P e d S)
    (hv : aparts σ.tm parts.toList = some vs) (hr : afill (fun i => some (i * S, S)) zs vs = some rs) : PO P ρ o σ (.agg rs) := by
  refine PO_of (by rw [ho]; simp) fun g I a w hs => ?_
  obtain ⟨z, z1, z2, z3, z4⟩ := run_zero hz I
  obtain ⟨p1, p2⟩ := aparts_vr hs _ _ hv
  obtain ⟨out, o1, o2, o3, o4⟩ := fill_run (I := I) (place := fun i => some (i * S, S)) vs _ zs z.cells rs hr p1 p2 z2 z3 z4
  refine ⟨.agg out, ?_, .agg _ _ o2 o3 o4⟩
  simp only [execOp, ho, Instr.build, Sem.run_bind, z1, Result.andThen_ok, run_underlying ht, run_sizeOf' he]
  have e : (parts.map fun (x : Nat × Operand) => (x.1, a.eval x.2)).toList = parts.toList.map fun p => (p.1, a.eval p.2) := by simp
  simp only [e, o1]
  rfl
def chunk (S : Nat) : Nat → List AV → List (List AV)
  | 0, _ => []
  | n + 1, cs => cs.take S :: chunk S n (cs.drop S)
theorem chunk_length (S : Nat) : ∀ (n : Nat) (cs : List AV), (chunk S n cs).length = n
  | 0, _ => rfl
  | n + 1, cs => by simp [chunk, chunk_length S n]
theorem chunk_get (S : Nat) : ∀ (n : Nat) (cs : List AV) (i : Nat) (e : List AV), (chunk S n cs)[i]? = some e → e = (cs.drop (i * S)).take S
  | 0, _, i, e, h => by simp [chunk] at h
  | n + 1, cs, 0, e, h => by simp [chunk] at h; simp [h]
  | n + 1, cs, i + 1, e, h => by
    have := chunk_get S n (cs.drop S) i e (by simpa [chunk] using h)
    rw [this, List.drop_drop]
    congr 2; rw [Nat.add_mul, Nat.one_mul]; omega
theorem vr_new_sl {I : Imm} {b : Nat} {arr : Array Value} {cs : List AV} {S n : Nat} (hc : ∀ j, I.cell b j = arr[j]?) (hsz : arr.size = cs.length) (hcl : ∀ a ∈ cs, AV.cell a = true) (hv : ∀ i a, cs[i]? = some a → VR I a (arr.getD i default))
    (hn : n * S = cs.length) : VR I (.sl .full S (chunk S n cs)) (.slice (some ⟨b, 0, none⟩) n n) := by
  have hl := chunk_length S n cs
  have key : ∀ i e j a, (chunk S n cs)[i]? = some e → e[j]? = some a → cs[i * S + j]? = some a := by
    intro i e j a h1 h2
    have := chunk_get S n cs i e h1
    subst this
    rw [List.getElem?_take] at h2
    split at h2
    · rwa [List.getElem?_drop] at h2
    · cases h2
  have h : VR I (.sl .full S (chunk S n cs)) (.slice (some ⟨b, 0, none⟩) (chunk S n cs).length n) := by
    refine .sl _ _ _ _ _ (fun i j => arr.getD (i * S + j) default) ⟨.inr rfl, by omega, hl.symm⟩ ?_ ?_ ?_ ?_
    · intro e he
      obtain ⟨i, hi, rfl⟩ := List.mem_iff_getElem.1 he
      have := chunk_get S n cs i _ (List.getElem?_eq_getElem hi)
      rw [this, List.length_take, List.length_drop]
      have : (i + 1) * S ≤ n * S := Nat.mul_le_mul_right _ (by omega)
      rw [Nat.add_mul, Nat.one_mul] at this
      omega
    · intro e he a ha
      obtain ⟨i, hi, rfl⟩ := List.mem_iff_getElem.1 he
      obtain ⟨j, hj, rfl⟩ := List.mem_iff_getElem.1 ha
      exact hcl _ (List.mem_of_getElem? (key i _ j _ (List.getElem?_eq_getElem hi) (List.getElem?_eq_getElem hj)))
    · intro i e j a h1 h2
      have := key i e j a h1 h2
      have hlt : i * S + j < arr.size := by rw [hsz]; exact (List.getElem?_eq_some_iff.1 this).1
      simp [hc, Array.getElem?_eq_getElem hlt, Array.getD_eq_getD_getElem?]
    · intro i e j a h1 h2
      exact hv _ _ (key i e j a h1 h2)
  rwa [hl] at h
def azeros (zs : List AV) (n : Nat) : List AV := (List.replicate n zs).flatten
theorem zero_cells {I : Imm} {z : Array Value} {zs : List AV} (hl : z.size = zs.length) (hv : ∀ i a, zs[i]? = some a → VR I a (z.getD i default)) (n : Nat) :
    ∀ i a, (azeros zs n)[i]? = some a → VR I a (((Array.range (n * zs.length)).map (z[· % z.size]!)).getD i default) := by
  induction n with
  | zero => intro i a h; simp [azeros] at h
  | succ n ih =>
    intro i a h
    have hi : i < (n + 1) * zs.length := by
      have := (List.getElem?_eq_some_iff.1 h).1
      simpa [azeros] using this
    have e : azeros zs (n + 1) = azeros zs n ++ zs := by
      simp only [azeros, List.replicate_succ', List.flatten_append, List.flatten_cons, List.flatten_nil, List.append_nil]
    have hln : (azeros zs n).length = n * zs.length := by simp [azeros]
    rw [e] at h
    have hzpos : 0 < zs.length := by
      rcases Nat.eq_zero_or_pos zs.length with h0 | h0
      · rw [h0] at hi; omega
      · exact h0
    have goal1 : ((Array.range ((n + 1) * zs.length)).map (z[· % z.size]!)).getD i default = z[i % z.size]! := by
      rw [Array.getD_eq_getD_getElem?, Array.getElem?_map, Array.getElem?_eq_getElem (by simpa using hi)]
      simp
    rw [goal1]
    by_cases c : i < n * zs.length
    · rw [List.getElem?_append_left (by omega)] at h
      have := ih i a h
      rw [Array.getD_eq_getD_getElem?, Array.getElem?_map, Array.getElem?_eq_getElem (by simpa using c)] at this
      simpa using this
    · rw [List.getElem?_append_right (by omega), hln] at h
      have hm : i % z.size = i - n * zs.length := by
        rw [hl]
        have : i = (i - n * zs.length) + zs.length * n := by rw [Nat.mul_comm zs.length n]; omega
        rw [this, Nat.add_mul_mod_self_left]
        rw [Nat.mod_eq_of_lt]
        · rw [Nat.mul_comm]; omega
        · rw [Nat.add_mul, Nat.one_mul] at hi; omega
      rw [hm]
      have := hv _ a h
      have hlt : i - n * zs.length < z.size := by rw [hl]; exact (List.getElem?_eq_some_iff.1 h).1
      simpa [Array.getD_eq_getD_getElem?, Array.getElem?_eq_getElem hlt, hlt] using this
theorem azeros_cell {zs : List AV} (h : ∀ a ∈ zs, AV.cell a = true) (n : Nat) : ∀ a ∈ azeros zs n, AV.cell a = true := by
  intro a ha
  simp only [azeros, List.mem_flatten] at ha
  obtain ⟨l, hl, ha⟩ := ha
  rw [List.eq_of_mem_replicate hl] at ha
  exact h a ha
theorem PO_buildSlice {t e : TypeId} {n S : Nat} {d : TypeDesc} {parts : Array (Nat × Operand)} {zs : List AV} {vs : List (Nat × AV)} {rs : List AV} (ho : o.op = .buildSlice t n parts) (ht : P.underlying t = some (.slice e)) (he : TyF P e d S) (hz : ZeroF P e zs)
    (hzl : zs.length = S) (hv : aparts σ.tm parts.toList = some vs) (hr : afill (fun i => some (i * S, S)) (azeros zs n) vs = some rs) (hlim : n * S ≤ 16777216) (hrl : rs.length = n * S) (hpos : 0 < n * S) : PO P ρ o σ (.sl .full S (chunk S n rs)) := by
  intro g I a w hs
  obtain ⟨z, z1, z2, z3, z4⟩ := run_zero hz I
  obtain ⟨p1, p2⟩ := aparts_vr hs _ _ hv
  have hzc := zero_cells (I := I) (by rw [z2]) z4 n
  obtain ⟨out, o1, o2, o3, o4⟩ := fill_run (I := I) (place := fun i => some (i * S, S)) vs _ (azeros zs n) ((Array.range (n * S)).map (z.cells[· % z.cells.size]!)) rs hr p1 p2 (by simp [azeros, hzl]) (azeros_cell z3 n) (by rw [← hzl]; exact hzc)
  obtain ⟨hs', hle⟩ := hs.new_imm out e
  have e : (parts.map fun (x : Nat × Operand) => (x.1, a.eval x.2)).toList = parts.toList.map fun p => (p.1, a.eval p.2) := by simp
  refine wpIn_of_run' (w' := w.alloc (.cells out _)) (u := .slice (some ⟨w.heap.size, 0, none⟩) n n) (by rw [ho]; simp) ?_ ⟨_, _, hle, rfl, ?_, hs'⟩
  · simp only [execOp, ho, Instr.buildSlice, Sem.run_bind, run_underlying ht, Result.andThen_ok, run_sizeOf' he]
    rw [if_neg (by omega : ¬ n * S > 2 ^ 24), if_neg (by omega : ¬ n * S = 0)]
    simp only [Sem.run_bind, z1, Result.andThen_ok, e, Sem.run_pure, o1]
    rfl
  · exact vr_new_sl (arr := out) (fun j => by simp [Imm.setBlk]) o2 o3 (fun i a h => (o4 i a h).mono hle) (by rw [hrl])
theorem PO_buildSlice0 {t e : TypeId} {S : Nat} {d : TypeDesc} (ho : o.op = .buildSlice t 0 #[]) (ht : P.underlying t = some (.slice e)) (he : TyF P e d S) : PO P ρ o σ (.sl .full S []) := by
  intro g I a w hs
  obtain ⟨hs', hle⟩ := hs.new_imm #[] e
  refine wpIn_of_run' (w' := w.alloc (.cells #[] e)) (u := .slice (some ⟨w.heap.size, 0, none⟩) 0 0) (by rw [ho]; simp) ?_ ⟨_, _, hle, rfl, ?_, hs'⟩
  · simp [execOp, ho, Instr.buildSlice, run_underlying ht, run_sizeOf' he, Instr.fill, newRow, map_range0]
  · exact vr_new_sl (arr := #[]) (cs := []) (n := 0) (fun j => by simp [Imm.setBlk]) rfl (by simp) (by simp) (by simp)
/-! ### make -/
theorem MO_makeSlice {t e : TypeId} {S bytes : Nat} {d : TypeDesc} {x y : Operand} {n c : Nat} {k k' : IntKind} {zs : List AV} (ho : o.op = .makeSlice t x y) (ht : P.underlying t = some (.slice e)) (he : TyF P e d S) (hz : ZeroF P e zs) (hzl : zs.length = S)
    (hb : (P.info? e).map (·.bytes) = some bytes) (hx : ev σ.tm x = some (.lit (.int k n))) (hy : ev σ.tm y = some (.lit (.int k' c))) (hnc : n ≤ c) (hlim : bytes * c ≤ 281474976710656) (hc : c ≤ 9223372036854775807) :
    MO P ρ o σ (fun u h' => ∃ b, σ.h b = none ∧ u = .ms b 0 S n c ∧ h' = σ.h.upd b (some (.row (azeros zs c)))) := by
  intro g I a w hs
  obtain ⟨z, z1, z2, z3, z4⟩ := run_zero hz I
  have hzc := zero_cells (I := I) (by rw [z2]) z4 c
  have h1 := VR.lit_inv (hs.ev hx)
  have h2 := VR.lit_inv (hs.ev hy)
  obtain ⟨i, hi, hib⟩ := Option.map_eq_some_iff.1 hb
  have w1 : IntKind.i64.wrap (n : Int) = n := by
    have := IntWalk.i64_in (n : Int) (by omega); exact this
  have w2 : IntKind.i64.wrap (c : Int) = c := by
    have := IntWalk.i64_in (c : Int) (by omega); exact this
  refine wpIn_of_run' (w' := w.alloc (.cells ((Array.range (c * S)).map (z.cells[· % z.cells.size]!)) e)) (u := .slice (some ⟨w.heap.size, 0, none⟩) n c) (by rw [ho]; simp) ?_
    ⟨I, _, .ms w.heap.size 0 S n c, _, .refl _, rfl, .ms _ _ _ _ _, ?_, w.heap.size, h_new hs, rfl, rfl⟩
  · have e1 : ¬ ((bytes : Int) * (c : Int) > 281474976710656) := by
      have h := Int.ofNat_le.2 hlim
      rw [Int.natCast_mul] at h
      exact Int.not_lt.2 h
    simp only [execOp, ho, h1, h2, Instr.makeSlice, Sem.run_bind, run_underlying ht, Result.andThen_ok, asInt, asIntOf, Sem.run_pure, typeInfo, run_program, hi, w1, w2]
    have e2 : ((c : Int) < 0 || (i.bytes : Int) * c > 2 ^ 48) = false := by
      rw [hib]
      simp only [Bool.or_eq_false_iff, decide_eq_false_iff_not]
      have p48 : (2 : Int) ^ 48 = 281474976710656 := by decide
      exact ⟨by omega, by rw [p48]; exact e1⟩
    have e3 : ((n : Int) > c) = False := by simp; omega
    simp only [e2, show ¬ ((n : Int) < 0) by omega, e3, decide_false, Bool.or_false, Bool.false_eq_true, if_false, run_askRoom, Result.andThen_ok, Int.toNat_natCast, run_sizeOf' he]
    by_cases hz0 : c * S = 0
    · simp [hz0, newRow, run_sizeOf' he, map_range0]
    · simp [hz0, newRow, run_sizeOf' he, z1]
  · refine (hs.alloc _).setObj _ _ hs.sz ⟨_, e, heap_alloc_new _ _, by simp [azeros, hzl], azeros_cell z3 c, ?_, I_new hs⟩ (fun o e => by rw [h_new hs] at e; cases e)
    rw [← hzl]; exact hzc
end
end Go.AM
end
section
set_option linter.unusedVariables false
set_option linter.unusedSimpArgs false
namespace Go.AM
open Go.RowKit
theorem flat_length {S : Nat} {es : List (List AV)} (h : ∀ e ∈ es, e.length = S) : es.flatten.length = es.length * S := by
  induction es with
  | nil => simp
  | cons e es ih =>
    rw [List.flatten_cons, List.length_append, ih (fun x hx => h x (List.mem_cons_of_mem _ hx)), h e (List.mem_cons_self ..), List.length_cons, Nat.add_mul, Nat.one_mul, Nat.add_comm]
theorem flat_get {S : Nat} {es : List (List AV)} (h : ∀ e ∈ es, e.length = S) {i : Nat} {e : List AV} {j : Nat} {a : AV} (h1 : es[i]? = some e) (h2 : e[j]? = some a) : es.flatten[i * S + j]? = some a := by
  induction es generalizing i with
  | nil => simp at h1
  | cons x es ih =>
    have hx := h x (List.mem_cons_self ..)
    cases i with
    | zero =>
      simp only [List.getElem?_cons_zero, Option.some.injEq] at h1
      subst h1
      have : j < x.length := (List.getElem?_eq_some_iff.1 h2).1
      rw [List.flatten_cons, Nat.zero_mul, Nat.zero_add, List.getElem?_append_left this]; exact h2
    | succ i =>
      rw [List.flatten_cons, List.getElem?_append_right (by rw [hx, Nat.add_mul]; omega), hx]
      have := ih (fun y hy => h y (List.mem_cons_of_mem _ hy)) (by simpa using h1)
      rw [show (i + 1) * S + j - S = i * S + j by rw [Nat.add_mul]; omega]; exact this
theorem flat_inv {S : Nat} {es : List (List AV)} (h : ∀ e ∈ es, e.length = S) {k : Nat} {a : AV} (h1 : es.flatten[k]? = some a) : ∃ i e j, es[i]? = some e ∧ e[j]? = some a ∧ k = i * S + j := by
  induction es generalizing k with
  | nil => simp at h1
  | cons x es ih =>
    have hx := h x (List.mem_cons_self ..)
    rw [List.flatten_cons] at h1
    by_cases c : k < x.length
    · rw [List.getElem?_append_left c] at h1
      exact ⟨0, x, k, rfl, h1, by omega⟩
    · rw [List.getElem?_append_right (by omega)] at h1
      obtain ⟨i, e, j, e1, e2, e3⟩ := ih (fun y hy => h y (List.mem_cons_of_mem _ hy)) h1
      exact ⟨i + 1, e, j, by simpa using e1, e2, by rw [Nat.add_mul]; omega⟩
theorem vr_sl_flat {I : Imm} {own : Own} {S : Nat} {es : List (List AV)} {v : Value} (h : VR I (.sl own S es) v) :
    (v = .slice none 0 0 ∧ es = [] ∧ (own = .nil ∨ own = .any)) ∨ ∃ ad cap, ∃ vals : List Value, v = .slice (some ad) es.length cap ∧ OwnOk I own ad es.length cap ∧ (∀ e ∈ es, e.length = S) ∧ (∀ e ∈ es, ∀ a ∈ e, AV.cell a = true) ∧
      vals.length = es.length * S ∧ ∀ k a, es.flatten[k]? = some a → I.cell ad.block (ad.off + k) = some (vals.getD k default) ∧ VR I a (vals.getD k default) := by
  cases h with
  | slnil _ _ h => exact .inl ⟨rfl, rfl, h⟩
  | sl _ _ _ ad cap u ho hl hcl hc hv =>
    refine .inr ⟨ad, cap, (List.range (es.length * S)).map (fun k => u (k / S) (k % S)), rfl, ho, hl, hcl, by simp, fun k a hk => ?_⟩
    have hlt : k < es.length * S := by rw [← flat_length hl]; exact (List.getElem?_eq_some_iff.1 hk).1
    obtain ⟨i, e, j, e1, e2, rfl⟩ := flat_inv hl hk
    have hj : j < S := by rw [← hl e (List.mem_of_getElem? e1)]; exact (List.getElem?_eq_some_iff.1 e2).1
    have d1 : (i * S + j) / S = i := by rw [Nat.add_comm, Nat.add_mul_div_right _ _ (by omega), Nat.div_eq_of_lt hj]; omega
    have d2 : (i * S + j) % S = j := by rw [Nat.add_comm, Nat.add_mul_mod_self_right, Nat.mod_eq_of_lt hj]
    have : ((List.range (es.length * S)).map (fun k => u (k / S) (k % S))).getD (i * S + j) default = u i j := by
      simp only [List.getD_eq_getElem?_getD, List.getElem?_map, List.getElem?_range hlt, Option.map_some, Option.getD_some, d1, d2]
    rw [this, ← Nat.add_assoc]
    exact ⟨hc i e j a e1 e2, hv i e j a e1 e2⟩
theorem vr_sl_mk {I : Imm} {own : Own} {S cap : Nat} {ad : Addr} {es : List (List AV)} {vals : Nat → Value} (ho : OwnOk I own ad es.length cap) (hl : ∀ e ∈ es, e.length = S) (hcl : ∀ e ∈ es, ∀ a ∈ e, AV.cell a = true)
    (hk : ∀ k a, es.flatten[k]? = some a → I.cell ad.block (ad.off + k) = some (vals k) ∧ VR I a (vals k)) : VR I (.sl own S es) (.slice (some ad) es.length cap) := by
  refine .sl _ _ _ _ _ (fun i j => vals (i * S + j)) ho hl hcl (fun i e j a h1 h2 => ?_) (fun i e j a h1 h2 => (hk _ _ (flat_get hl h1 h2)).2)
  rw [Nat.add_assoc]; exact (hk _ _ (flat_get hl h1 h2)).1
def delOwn : Own → Heap → Heap
  | .tok b, h => h.upd b none
  | _, h => h
section
variable {P : Program} {ρ : Option Nat} {Q : Exit → AS → Prop} {σ : AS} {o : Oper} {ops : Array Oper} {l : List Oper}
theorem exec_append {s x : Operand} {ts : Array TypeId} {ρ' : Operand → Value} (ho : o.op = .call { callee := .builtin .append, args := #[s, x], argTypes := ts }) (w : World) :
    (execOp ρ' o).run P w = ((Builtin.append_ ts o.type #[ρ' s, ρ' x]).run P w).andThen fun v w' => .ok (.value v) w' := by
  simp [execOp, ho, resolve, invoke, builtin]
theorem PO_append0 {s x : Operand} {t tx e e' : TypeId} {S S' : Nat} {d : TypeDesc} {own own' : Own} {es : List (List AV)} (ho : o.op = .call { callee := .builtin .append, args := #[s, x], argTypes := #[t, tx] })
    (ht : P.underlying t = some (.slice e)) (htx : P.underlying tx = some (.slice e')) (he : TyF P e d S) (hse : ev σ.tm s = some (.sl own S es)) (hxe : ev σ.tm x = some (.sl own' S' [])) : PO P ρ o σ (.sl own S es) := by
  refine PO_of (by rw [ho]; simp) fun g I a w hs => ?_
  have hv := hs.ev hse
  have hx := hs.ev hxe
  refine ⟨a.eval s, ?_, hv⟩
  rw [exec_append ho]
  have hx0 : ∃ A c, a.eval x = .slice A 0 c := by
    generalize a.eval x = q at hx
    cases hx with
    | slnil => exact ⟨_, _, rfl⟩
    | sl _ _ _ ad cap u _ _ _ _ _ => exact ⟨_, _, rfl⟩
  obtain ⟨A, c, hA⟩ := hx0
  rw [hA]
  have hfc : ∀ w' : World, (Builtin.firstCells S 0 (.slice A 0 c)).run P w' = .ok #[] w' := by
    intro w'
    cases A with
    | none => simp [Builtin.firstCells]
    | some A => simp [Builtin.firstCells, loadCells, loadCellsFrom]
  rcases vr_sl_flat hv with ⟨e1, e2, _⟩ | ⟨ad, cap, vals, e1, how, _⟩
  · rw [e1]
    simp [Builtin.append_, run_underlying ht, run_underlying htx, run_sizeOf' he, Builtin.lenOf, hfc]
  · rw [e1]
    have : es.length ≤ cap := how.2.1
    simp [Builtin.append_, run_underlying ht, run_underlying htx, run_sizeOf' he, Builtin.lenOf, hfc, this, storeCells]
theorem run_append_room_row (w : World) (t tx ty e : TypeId) (i : TypeInfo) (ht : P.underlying t = some (.slice e)) (hi : P.info? e = some i) (g sLen sCap : Nat) (cur : Array Value) (et : TypeId) (hg : w.heap[g]? = some (.cells cur et (0, 0)))
    (x : Value) (n : Nat) (news : List Value) (hs : Src P i.size tx x n news w) (hroom : sLen + n ≤ sCap) (hfit : sLen * i.size + news.length ≤ cur.size) :
    (Builtin.append_ #[t, tx] ty #[.slice (some ⟨g, 0, none⟩) sLen sCap, x]).run P w =
      .ok (.slice (some ⟨g, 0, none⟩) (sLen + n) sCap) (w.setRow g (cur.toList.take (sLen * i.size) ++ news ++ cur.toList.drop (sLen * i.size + news.length)).toArray) := by
  have hst := run_storeCells_at P g (sLen * i.size) et news 0 cur w hg (by simpa using hfit) hs.one
  simp only [Nat.add_zero] at hst
  rcases hs.kind with ⟨e', hk⟩ | hk <;> simp [Builtin.append_, run_underlying ht, run_underlying hk, sizeOf, typeInfo, hi, hs.len, hroom, hs.cells, Addr.add_lit, hst]
theorem src_of_vr {g : G} {I : Imm} {a : Act} {w : World} (hs : SR g I σ a w) {tx e' : TypeId} (htx : P.underlying tx = some (.slice e')) {own : Own} {S : Nat} {xs : List (List AV)} {v : Value} (h : VR I (.sl own S xs) v) :
    ∃ news, Src P S tx v xs.length news w ∧ (∀ e ∈ xs, e.length = S) ∧ (∀ e ∈ xs, ∀ a ∈ e, AV.cell a = true) ∧ ∀ k a, xs.flatten[k]? = some a → VR I a (news.getD k default) := by
  rcases vr_sl_flat h with ⟨e1, e2, _⟩ | ⟨ad, cap, vals, e1, how, hl, hcl, hlen, hk⟩
  · subst e1; subst e2
    exact ⟨[], Src.ofNil (w := w) htx 0, by simp, by simp, by simp⟩
  · subst e1
    refine ⟨vals, Src.ofSlice (w := w) htx ad _ cap vals hlen (fun j u hj => ?_) (fun u hu => ?_), hl, hcl, fun k a h => (hk k a h).2⟩
    · have hlt : j < xs.flatten.length := by rw [flat_length hl, ← hlen]; exact (List.getElem?_eq_some_iff.1 hj).1
      have := (hk j _ (List.getElem?_eq_getElem hlt)).1
      rw [add_plain ad (how.spot (by rcases Nat.eq_zero_or_pos xs.length with h0 | h0 <;> simp_all))]
      have e2 : vals.getD j default = u := by simp [List.getD_eq_getElem?_getD, hj]
      rw [e2] at this
      exact hs.wr.cell _ _ _ this
    · obtain ⟨j, hj, rfl⟩ := List.mem_iff_getElem.1 hu
      have hlt : j < xs.flatten.length := by rw [flat_length hl, ← hlen]; exact hj
      have h2 := (hk j _ (List.getElem?_eq_getElem hlt)).2
      have e2 : vals.getD j default = vals[j] := by simp [List.getD_eq_getElem?_getD, hj]
      rw [e2] at h2
      refine h2.oneCell ?_
      obtain ⟨i, e, k, e3, e4, _⟩ := flat_inv hl (List.getElem?_eq_getElem hlt)
      exact hcl e (List.mem_of_getElem? e3) _ (List.mem_of_getElem? e4)
theorem MO_append {s x : Operand} {t tx e e' : TypeId} {S S' bytes : Nat} {d : TypeDesc} {zs : List AV} {own own' : Own} {es xs : List (List AV)} (ho : o.op = .call { callee := .builtin .append, args := #[s, x], argTypes := #[t, tx] })
    (ht : P.underlying t = some (.slice e)) (htx : P.underlying tx = some (.slice e')) (he : TyF P e d S) (hz : ZeroF P e zs) (hzl : zs.length = S) (hb : (P.info? e).map (·.bytes) = some bytes)
    (hse : ev σ.tm s = some (.sl own S' es)) (hxe : ev σ.tm x = some (.sl own' S xs)) (hS : S' = S ∨ es = []) (hpos : 0 < xs.length)
    (hown : (own = .nil) ∨ own = .full ∨ ∃ b, own = .tok b ∧ σ.h b = some (.tok es.length S)) (hlim : (es.length + xs.length) * bytes ≤ 140737488355328) (h63 : es.length + xs.length ≤ 9223372036854775807) :
    MO P ρ o σ (fun u h' => ∃ b, (σ.h b = none ∨ own = .tok b) ∧ u = .sl (.tok b) S (es ++ xs) ∧ h' = (delOwn own σ.h).upd b (some (.tok (es.length + xs.length) S))) := by
  intro g I a w hs
  obtain ⟨z, z1, z2, z3, z4⟩ := run_zero hz I
  obtain ⟨i, hi, hib⟩ := Option.map_eq_some_iff.1 hb
  obtain ⟨i2, hi2, his⟩ := he.i
  obtain rfl : i = i2 := by rw [hi] at hi2; injection hi2
  obtain ⟨iz, zz, hz1, hz2, hz3, hz4⟩ := hz.z
  obtain rfl : i = iz := by rw [hi] at hz1; injection hz1
  have hzz : zz = z := by
    have := z1 w
    simp [zeroValue, typeInfo, hi, hz2] at this
    exact this
  subst hzz
  have hv0 := hs.ev hse
  have hv : VR I (.sl own S es) (a.eval s) := by
    rcases hS with rfl | rfl
    · exact hv0
    · generalize a.eval s = q at hv0
      cases hv0 with
      | slnil _ _ h => exact .slnil _ _ h
      | sl _ _ _ ad cap u ho hl hcl hc hv =>
        exact .sl own S [] ad cap u ho (by simp) (by simp) (by simp) (by simp)
  have hx := hs.ev hxe
  obtain ⟨news, hsrc, hxl, hxc, hxv⟩ := src_of_vr hs htx hx
  have hnl : news.length = xs.length * S := hsrc.newsLen
  have hxfl := flat_length hxl
  -- the growing arm
  have grow : ∀ (base : Option Addr) (sCap : Nat) (olds : List Value), a.eval s = .slice base es.length sCap → (Builtin.firstCells S es.length (.slice base es.length sCap)).run P w.drew = .ok olds.toArray w.drew → olds.length = es.length * S →
      (∀ e ∈ es, e.length = S) → (∀ e ∈ es, ∀ a ∈ e, AV.cell a = true) → (∀ k a, es.flatten[k]? = some a → VR I a (olds.getD k default)) → sCap < es.length + xs.length →
      o.wpIn (WF ρ) 0 P a w (fun a' w' => ∃ I' u v h', I.le I' ∧ a' = a.put o.dst u ∧ VR I' v u ∧ SR g I' (σ.setH h') a w' ∧ ∃ b, (σ.h b = none ∨ own = .tok b) ∧ v = .sl (.tok b) S (es ++ xs) ∧ h' = (delOwn own σ.h).upd b (some (.tok (es.length + xs.length) S))) (fun _ _ _ => False) := by
    intro base sCap olds hbase hold hol hel hecl hev hg
    have hrun := run_append_grow_src (P := P) w t tx o.type e i zz ht hi hz2 base es.length sCap olds (by rw [his]; exact hold) (a.eval x) xs.length news (by rw [his]; exact hsrc) hg (Int.ofNat_le.2 h63)
      (by rw [hib]; exact growslice_fits hg hlim)
    have hcapge := grownCap_ge w (es.length + xs.length) sCap e
    generalize hcap : grownCap w (es.length + xs.length) sCap e = cap at hrun hcapge
    generalize harr : ((olds ++ news).toArray ++ Builtin.zeroCells zz.cells (cap - (es.length + xs.length))) = arr at hrun
    have hsz : arr.size = cap * S := by
      rw [← harr, Array.size_append, List.size_toArray, List.length_append, size_zeroCells, hol, hnl, z2, hzl, Nat.sub_mul, Nat.add_mul]
      have : (es.length + xs.length) * S ≤ cap * S := Nat.mul_le_mul_right _ hcapge
      rw [Nat.add_mul] at this; omega
    have hget : ∀ k, k < (es.length + xs.length) * S → arr[k]? = (olds ++ news)[k]? := by
      intro k hk
      rw [← harr, Array.getElem?_append_left (by rw [List.size_toArray, List.length_append, hol, hnl, ← Nat.add_mul]; exact hk), List.getElem?_toArray]
    -- the world behind: one draw, one row
    have s1 := hs.drew.alloc (.cells arr e)
    have hnew : (w.drew.alloc (.cells arr e)).heap[w.heap.size]? = some (.cells arr e (0, 0)) := heap_alloc_new w.drew _
    have hInew : ∀ o', I.cell w.heap.size o' = none := I_new hs
    have s2 := s1.setBlk w.heap.size (fun o' => if o' < (es.length + xs.length) * S then arr[o']? else none) (fun o' v k => by rw [hInew] at k; cases k) (fun o' v k => by
      split at k
      · simp only [World.cell?, hnew]; simpa using k
      · cases k) (h_new hs)
    obtain ⟨s3, hle3⟩ := s2.setCap w.heap.size cap (.inl (show I.cap w.heap.size = none from cap_new hs)) (by simp)
    have hle : I.le ((I.setBlk w.heap.size fun o' => if o' < (es.length + xs.length) * S then arr[o']? else none).setCap w.heap.size cap) :=
      (Imm.le_setBlk (fun o' v k => by rw [hInew] at k; cases k)).trans hle3
    have s4 : ∃ ss : AS, ss = σ.setH (delOwn own σ.h) ∧ SR g ((I.setBlk w.heap.size fun o' => if o' < (es.length + xs.length) * S then arr[o']? else none).setCap w.heap.size cap) ss a (w.drew.alloc (.cells arr e)) := by
      refine ⟨_, rfl, ?_⟩
      cases own with
      | tok b =>
        refine s3.delObj b fun ob eb => ?_
        rcases hown with h | h | ⟨b', h, hb'⟩
        · cases h
        · cases h
        · injection h with h; subst h; rw [hb'] at eb; cases eb; rfl
      | _ => exact s3
    obtain ⟨ss, hss, s4⟩ := s4
    have s5 := s4.setObj w.heap.size (.tok (es.length + xs.length) S) hs.sz ⟨arr, e, cap, hnew, by simp [Imm.setCap], hsz, hcapge, fun k hk => by
      simp only [Imm.setCap, Imm.setBlk, if_pos rfl]
      simp [Nat.not_lt.2 hk]⟩ (fun ob eb => by
        subst hss
        have h0 := h_new hs
        cases own with
        | tok b =>
          simp only [delOwn, AS.setH, Heap.upd] at eb
          split at eb
          · cases eb
          · rw [h0] at eb; cases eb
        | _ => simp only [delOwn, AS.setH] at eb; rw [h0] at eb; cases eb)
    have e5 : ss.setH (ss.h.upd w.heap.size (some (.tok (es.length + xs.length) S))) = σ.setH ((delOwn own σ.h).upd w.heap.size (some (.tok (es.length + xs.length) S))) := by subst hss; rfl
    rw [e5] at s5
    refine wpIn_of_run' (w' := w.drew.alloc (.cells arr e)) (u := .slice (some ⟨w.heap.size, 0, none⟩) (es.length + xs.length) cap) (by rw [ho]; simp) (by rw [exec_append ho, hbase, hrun]; rfl)
      ⟨_, _, _, _, hle, rfl, ?_, s5, w.heap.size, .inl (h_new hs), rfl, rfl⟩
    have hlen : (es ++ xs).length = es.length + xs.length := by simp
    have := vr_sl_mk (own := .tok w.heap.size) (S := S) (cap := cap) (ad := ⟨w.heap.size, 0, none⟩) (es := es ++ xs) (vals := fun k => arr.getD k default) (I := (I.setBlk w.heap.size fun o' => if o' < (es.length + xs.length) * S then arr[o']? else none).setCap w.heap.size cap)
      ⟨.inr rfl, by rw [hlen]; exact hcapge, rfl, by simp [Imm.setCap]⟩ (fun e he' => (List.mem_append.1 he').elim (hel e) (hxl e)) (fun e he' => (List.mem_append.1 he').elim (hecl e) (hxc e))
      (fun k a hk => by
        rw [List.flatten_append] at hk
        have hefl := flat_length hel
        have hlt : k < (es.length + xs.length) * S := by
          have := (List.getElem?_eq_some_iff.1 hk).1
          rw [List.length_append, hefl, hxfl, ← Nat.add_mul] at this; exact this
        have hlt' : k < arr.size := by rw [hsz]; exact Nat.lt_of_lt_of_le hlt (Nat.mul_le_mul_right _ hcapge)
        refine ⟨?_, ?_⟩
        · simp only [Imm.setCap, Imm.setBlk, if_pos rfl, Nat.zero_add, if_pos hlt]
          simp [Array.getElem?_eq_getElem hlt', Array.getD_eq_getD_getElem?]
        · have e1 : arr.getD k default = (olds ++ news).getD k default := by rw [Array.getD_eq_getD_getElem?, hget k hlt, List.getD_eq_getElem?_getD]
          show VR _ a (arr.getD k default)
          rw [e1, List.getD_eq_getElem?_getD]
          by_cases c : k < es.length * S
          · rw [List.getElem?_append_left (by omega)] at hk
            rw [List.getElem?_append_left (by omega), ← List.getD_eq_getElem?_getD]
            exact (hev k a hk).mono hle
          · rw [List.getElem?_append_right (by omega), hefl] at hk
            rw [List.getElem?_append_right (by omega), hol, ← List.getD_eq_getElem?_getD]
            exact (hxv _ a hk).mono hle)
    rwa [hlen] at this
  rcases vr_sl_flat hv with ⟨e1, e2, e3⟩ | ⟨ad, cap, vals, e1, how, hl, hcl, hlen, hk⟩
  · subst e2
    exact grow none 0 [] (by simpa using e1) (by simp [Builtin.firstCells]) (by simp) (by simp) (by simp) (by simp) (by simp; omega)
  · have hfc : ∀ w' : World, (∀ b o', w'.cell? ⟨b, o', none⟩ = w.cell? ⟨b, o', none⟩) → (Builtin.firstCells S es.length (.slice (some ad) es.length cap)).run P w' = .ok vals.toArray w' := by
      intro w' hw'
      refine run_firstCells_some w' S es.length ad es.length cap vals hlen (fun j u hj => ?_)
      have hlt : j < es.flatten.length := by rw [flat_length hl, ← hlen]; exact (List.getElem?_eq_some_iff.1 hj).1
      have := (hk j _ (List.getElem?_eq_getElem hlt)).1
      rw [add_plain ad (how.spot (by rcases Nat.eq_zero_or_pos es.length with h0 | h0 <;> simp_all)), hw']
      have e2 : vals.getD j default = u := by simp [List.getD_eq_getElem?_getD, hj]
      rw [e2] at this
      exact hs.wr.cell _ _ _ this
    by_cases hroom : es.length + xs.length ≤ cap
    · -- there is room: the row is one's own
      rcases hown with rfl | rfl | ⟨b, rfl, hb'⟩
      · exact how.2.2.elim
      · have : cap = es.length := how.2.2
        omega
      · obtain ⟨rfl, hcapb⟩ := how.2.2
        obtain ⟨hbase, arr, et, cap', hw, hcap', hasz, _, hfree⟩ := hs.wr.obj b _ hb'
        obtain rfl : cap = cap' := by rw [hcapb] at hcap'; injection hcap'
        have hfit : es.length * S + news.length ≤ arr.size := by
          rw [hnl, hasz, ← Nat.add_mul]; exact Nat.mul_le_mul_right _ hroom
        have hrun := run_append_room_row (P := P) w t tx o.type e i ht hi b es.length cap arr et hw (a.eval x) xs.length news (by rw [his]; exact hsrc) hroom (by rw [his]; exact hfit)
        rw [his] at hrun
        generalize harr' : (arr.toList.take (es.length * S) ++ news ++ arr.toList.drop (es.length * S + news.length)).toArray = arr' at hrun
        have hsz' : arr'.size = arr.size := by rw [← harr']; simp; omega
        have hold : ∀ k, k < es.length * S → arr'[k]? = arr[k]? := by
          intro k hk'
          rw [← harr', List.getElem?_toArray, List.append_assoc, List.getElem?_append_left (by simp; omega), List.getElem?_take, if_pos hk', Array.getElem?_toList]
        have hnew : ∀ k, es.length * S ≤ k → k < (es.length + xs.length) * S → arr'[k]? = news[k - es.length * S]? := by
          intro k h1 h2
          rw [Nat.add_mul] at h2
          have e2 : (arr.toList.take (es.length * S)).length = es.length * S := by simp; omega
          rw [← harr', List.getElem?_toArray, List.append_assoc, List.getElem?_append_right (by omega), List.getElem?_append_left (by omega), e2]
        have hI : ∀ o' v, I.cell b o' = some v → arr'[o']? = some v := by
          intro o' v h
          have hlt : o' < es.length * S := by
            rcases Nat.lt_or_ge o' (es.length * S) with h' | h'
            · exact h'
            · rw [hfree o' h'] at h; cases h
          rw [hold o' hlt]
          have := hs.wr.cell b o' v h
          simpa [World.cell?, hw] using this
        have hIf : ∀ o' v, I.cell b o' = some v → (if o' < (es.length + xs.length) * S then arr'[o']? else none) = some v := by
          intro o' v h
          have hlt : o' < es.length * S := by
            rcases Nat.lt_or_ge o' (es.length * S) with h' | h'
            · exact h'
            · rw [hfree o' h'] at h; cases h
          rw [if_pos (by rw [Nat.add_mul]; omega)]
          exact hI o' v h
        have hw' : (w.setRow b arr').heap[b]? = some (.cells arr' et (0, 0)) := setRow_heap w b arr arr' et (0, 0) hw
        have s1 := (hs.delObj b (fun ob eb => by rw [hb'] at eb; cases eb; rfl)).setRow b hw arr' hbase (by simp [AS.setH]) hI
        have s2 := s1.setBlk b (fun o' => if o' < (es.length + xs.length) * S then arr'[o']? else none) hIf (fun o' v k => by
          split at k
          · simp only [World.cell?, hw']; simpa using k
          · cases k) (by simp [AS.setH])
        have hle : I.le (I.setBlk b fun o' => if o' < (es.length + xs.length) * S then arr'[o']? else none) := Imm.le_setBlk hIf
        have s3 := s2.setObj b (.tok (es.length + xs.length) S) hbase ⟨arr', et, cap, hw', hle.cap _ _ hcapb, by rw [hsz', hasz], hroom, fun k hk' => by
          simp only [Imm.setBlk, if_pos rfl]
          simp [Nat.not_lt.2 hk']⟩ (fun ob eb => by simp [AS.setH] at eb)
        refine wpIn_of_run' (w' := w.setRow b arr') (u := .slice (some ⟨b, 0, none⟩) (es.length + xs.length) cap) (by rw [ho]; simp) (by rw [exec_append ho, e1, hrun]; rfl)
          ⟨_, _, _, _, hle, rfl, ?_, s3, b, .inr rfl, rfl, rfl⟩
        have hlen2 : (es ++ xs).length = es.length + xs.length := by simp
        have := vr_sl_mk (own := .tok b) (S := S) (cap := cap) (ad := ⟨b, 0, none⟩) (es := es ++ xs) (vals := fun k => arr'.getD k default) (I := I.setBlk b fun o' => if o' < (es.length + xs.length) * S then arr'[o']? else none)
          ⟨.inr rfl, by rw [hlen2]; exact hroom, rfl, hle.cap _ _ hcapb⟩ (fun e he' => (List.mem_append.1 he').elim (hl e) (hxl e)) (fun e he' => (List.mem_append.1 he').elim (hcl e) (hxc e))
          (fun k a hk' => by
            rw [List.flatten_append] at hk'
            have hefl := flat_length hl
            have hlt : k < (es.length + xs.length) * S := by
              have := (List.getElem?_eq_some_iff.1 hk').1
              rw [List.length_append, hefl, hxfl, ← Nat.add_mul] at this; exact this
            have hlt' : k < arr'.size := by rw [hsz', hasz]; exact Nat.lt_of_lt_of_le hlt (Nat.mul_le_mul_right _ hroom)
            refine ⟨?_, ?_⟩
            · simp only [Imm.setBlk, if_pos rfl, Nat.zero_add, if_pos hlt]
              simp [Array.getElem?_eq_getElem hlt', Array.getD_eq_getD_getElem?]
            · show VR _ a (arr'.getD k default)
              rw [Array.getD_eq_getD_getElem?]
              by_cases c : k < es.length * S
              · rw [List.getElem?_append_left (by omega)] at hk'
                obtain ⟨c1, c2⟩ := hk k a hk'
                rw [show (0 : Nat) + k = k by omega] at c1
                rw [hI k _ c1]
                exact c2.mono hle
              · rw [List.getElem?_append_right (by omega), hefl] at hk'
                rw [hnew k (by omega) hlt, ← List.getD_eq_getElem?_getD]
                exact (hxv _ a hk').mono hle)
        rwa [hlen2] at this
    · exact grow (some ad) cap vals e1 (hfc w.drew (fun _ _ => rfl)) hlen hl hcl (fun k a h => (hk k a h).2) (by omega)
end
end Go.AM
end
