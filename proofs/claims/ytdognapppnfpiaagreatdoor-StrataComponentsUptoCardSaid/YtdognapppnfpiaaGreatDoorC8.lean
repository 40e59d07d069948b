/- A part of the proof: walks of the code and laws that they use (Am14). Conditions: as each theorem names them. -/
import Derived.Laws.BytesString
import Derived.Test.YtdognapppnfpiaaGreatDoorC7
section
set_option linter.unusedVariables false
set_option linter.unusedSimpArgs false
namespace Go.AM
open Go.RowKit
def Grow (h0 : Heap) (S n : Nat) (own : Own) (h : Heap) : Prop :=
  (own = .nil ∧ h = h0) ∨ (own = .full ∧ h = h0) ∨ ∃ b, own = .tok b ∧ h0 b = none ∧ h = h0.upd b (some (.tok n S))
theorem Grow.nil (h0 : Heap) (S n : Nat) : Grow h0 S n .nil h0 := .inl ⟨rfl, rfl⟩
theorem Grow.full (h0 : Heap) (S n : Nat) : Grow h0 S n .full h0 := .inr (.inl ⟨rfl, rfl⟩)
theorem Grow.le {h0 h : Heap} {S n : Nat} {own : Own} (k : Grow h0 S n own h) : h0.le h := by
  rcases k with ⟨-, rfl⟩ | ⟨-, rfl⟩ | ⟨b, -, hb, rfl⟩
  · exact .refl _
  · exact .refl _
  · exact (Heap.le.refl _).upd hb _
theorem VR.any {I : Imm} {own : Own} {S : Nat} {es : List (List AV)} {u : Value} (h : VR I (.sl own S es) u) : VR I (.sl .any S es) u := by
  cases h with
  | slnil _ _ h => exact .slnil _ _ (.inr rfl)
  | sl _ _ _ ad cap u ho hl hcl hc hv => exact .sl _ _ _ ad cap u ⟨ho.1, ho.2.1, trivial⟩ hl hcl hc hv
section
variable {P : Program} {ρ : Option Nat} {Q : Exit → AS → Prop} {o : Oper} {ops : Array Oper} {l : List Oper} {n d : Nat} {tm : List (Nat × AV)} {h h0 : Heap} {ms : List Nat} {σ : AS}
theorem ghost_weak {k : Nat} {v u : AV} (hk : look tm k = some v) (hw : ∀ I x, VR I v x → VR I u x) : Ghost ⟨n, tm, h, ms, h0⟩ ⟨n, (k, u) :: tm, h, ms, h0⟩ := by
  intro g I a w hs
  refine ⟨I, hs.le, hs.below, hs.base, hs.wr, hs.size, fun q x e => ?_, ⟨hs.marks.defs, hs.marks.nodup, hs.marks.here, hs.marks.keep, hs.marks.apart⟩⟩
  have e' : look ((k, u) :: tm) q = some x := e
  rw [look_cons] at e'
  by_cases hq : k = q
  · rw [if_pos hq] at e'
    injection e' with e'
    subst hq; subst e'
    exact hw I _ (hs.slot k v hk)
  · rw [if_neg hq] at e'
    exact hs.slot q x e'
theorem AL_any {k S : Nat} {own : Own} {es : List (List AV)} (hk : look tm k = some (.sl own S es)) (hh : AL P ρ ops l Q ⟨n, (k, .sl .any S es) :: tm, h, ms, h0⟩) : AL P ρ ops l Q ⟨n, tm, h, ms, h0⟩ :=
  AL_ghost (ghost_weak hk fun _ _ => VR.any) hh
theorem AW_any {c : Code} {k S : Nat} {own : Own} {es : List (List AV)} (hk : look tm k = some (.sl own S es)) (hh : AW P ρ c Q ⟨n, (k, .sl .any S es) :: tm, h, ms, h0⟩) : AW P ρ c Q ⟨n, tm, h, ms, h0⟩ :=
  AW_ghost (ghost_weak hk fun _ _ => VR.any) hh
theorem PO_nil_assign {S : Nat} (ho : o.op = .assign (.const (.slice none 0 0))) : PO P ρ o σ (.sl .nil S []) :=
  PO_of (by rw [ho]; simp) fun g I a w hs => ⟨.slice none 0 0, by simp [execOp, ho, Act.eval], .slnil _ _ (.inl rfl)⟩
theorem PO_nil_move {S : Nat} (ho : o.op = .move (.const (.slice none 0 0))) : PO P ρ o σ (.sl .nil S []) :=
  PO_of (by rw [ho]; simp) fun g I a w hs => ⟨.slice none 0 0, by simp [execOp, ho, Act.eval], .slnil _ _ (.inl rfl)⟩
theorem MO_grow {α : Type} {f : α → List AV} {acc ys : List α} {s x : Operand} {t tx e e' : TypeId} {S S' bytes : Nat} {d : TypeDesc} {zs : List AV} {own own' : Own} {hg : Heap} (ho : o.op = .call { callee := .builtin .append, args := #[s, x], argTypes := #[t, tx] })
    (ht : P.underlying t = some (.slice e)) (htx : P.underlying tx = some (.slice e')) (he : TyF P e d S) (hz : ZeroF P e zs) (hzl : zs.length = S) (hb : (P.info? e).map (·.bytes) = some bytes)
    (hse : ev σ.tm s = some (.sl own S' (acc.map f))) (hxe : ev σ.tm x = some (.sl own' S (ys.map f))) (hS : S' = S ∨ acc = []) (hpos : 0 < ys.length)
    (hG : Grow hg S acc.length own σ.h) (hlim : (acc.length + ys.length) * bytes ≤ 140737488355328) (h63 : acc.length + ys.length ≤ 9223372036854775807) :
    MO P ρ o σ (fun u h' => ∃ own2, u = .sl own2 S ((acc ++ ys).map f) ∧ Grow hg S (acc ++ ys).length own2 h') := by
  have hown : own = .nil ∨ own = .full ∨ ∃ b, own = .tok b ∧ σ.h b = some (.tok (acc.map f).length S) := by
    rcases hG with ⟨e, -⟩ | ⟨e, -⟩ | ⟨b, e, -, e2⟩
    · exact .inl e
    · exact .inr (.inl e)
    · refine .inr (.inr ⟨b, e, ?_⟩)
      rw [e2]; simp [Heap.upd]
  intro g I a w hs
  refine wpIn_oper_mono (MO_append (ρ := ρ) ho ht htx he hz hzl hb hse hxe (hS.imp id fun e => by rw [e]; rfl) (by simpa using hpos) hown (by simpa using hlim) (by simpa using h63) g I a w hs) ?_ fun _ _ _ h => h
  rintro a' w' ⟨I', u, v, h', h1, h2, h3, h4, b, hb', hv, hh⟩
  refine ⟨I', u, v, h', h1, h2, h3, h4, .tok b, by rw [hv, List.map_append], .inr (.inr ⟨b, rfl, ?_⟩)⟩
  simp only [List.length_map] at hh
  rw [List.length_append]
  rcases hG with ⟨e, e2⟩ | ⟨e, e2⟩ | ⟨c, e, hc, e2⟩
  · subst e; rw [e2] at hh hb'
    rcases hb' with hb' | hb'
    · exact ⟨hb', hh⟩
    · cases hb'
  · subst e; rw [e2] at hh hb'
    rcases hb' with hb' | hb'
    · exact ⟨hb', hh⟩
    · cases hb'
  · subst e; rw [e2] at hh hb'
    have hdel : delOwn (.tok c) (hg.upd c (some (.tok acc.length S))) = hg := by
      funext q
      simp only [delOwn, Heap.upd]
      split
      · rename_i e; rw [e, hc]
      · rfl
    rw [hdel] at hh
    refine ⟨?_, hh⟩
    rcases hb' with hb' | hb'
    · simp only [Heap.upd] at hb'
      split at hb'
      · cases hb'
      · exact hb'
    · injection hb' with hb'
      rw [← hb']; exact hc
def ofInts (ns : List Int) : ByteArray := ns.foldl (fun r n => r.push (UInt8.ofNat n.toNat)) ByteArray.empty
theorem PO_convBytes {x : Operand} {s t e : TypeId} {own : Own} {ns : List Int} (ho : o.op = .convert s t x) (hs' : P.underlying s = some (.slice e)) (he : P.underlying e = some (.int .u8)) (ht : P.underlying t = some .string)
    (hx : ev σ.tm x = some (.sl own 1 (ns.map fun n => [.lit (.int .u8 n)]))) : PO P ρ o σ (.lit (.string (ofInts ns))) := by
  refine PO_of (by rw [ho]; simp) fun g I a w hs => ⟨.string (ofInts ns), ?_, .lit _ rfl⟩
  have hv := hs.ev hx
  generalize hu : a.eval x = p at hv
  simp only [execOp, ho, hu]
  rcases vr_sl_flat hv with ⟨e1, e2, _⟩ | ⟨ad, cap, vals, e1, how, hl, hcl, hlen, hk⟩
  · subst e1
    have : ns = [] := by simpa using e2
    subst this
    simp [run_convert_bytes_string w s t e _ _ _ hs' he ht, Conv.bytesToString, ofInts]
  · subst e1
    have hfl : (ns.map fun n => [AV.lit (.int .u8 n)]).flatten = ns.map fun n => AV.lit (.int .u8 n) := by
      clear hu hx hv hl hcl hlen hk how
      induction ns with
      | nil => rfl
      | cons n ns ih => simp [ih]
    rw [hfl] at hk
    have hlen' : vals.length = ns.length := by simpa using hlen
    have hcells : vals = ns.map (Value.int .u8) := by
      apply List.ext_getElem
      · simpa using hlen'
      · intro i h1 h2
        have h3 : i < ns.length := by omega
        have := (hk i (.lit (.int .u8 ns[i])) (by simp [h3])).2
        have := VR.lit_inv this
        simp [List.getD_eq_getElem?_getD, List.getElem?_eq_getElem h1] at this
        simpa using this
    have hrun := run_loadCells (P := P) (w := w) ad ns.length (fun j => vals.getD j default) (fun j hj => by
      rw [add_plain ad (how.spot (by simp; omega))]
      exact hs.wr.cell _ _ _ (hk j _ (List.getElem?_eq_getElem (by simpa using hj))).1)
    have hlen2 : (ns.map fun n => [AV.lit (.int .u8 n)]).length = ns.length := by simp
    rw [hlen2]
    have hrun2 : (loadCells ad ns.length).run P w = .ok (ns.map (Value.int .u8)).toArray w := by
      rw [hrun]
      congr 1
      apply Array.ext
      · simp
      · intro i h1 h2
        have h3 : i < ns.length := by simpa using h2
        simp [hcells, List.getD_eq_getElem?_getD, h3]
    simp [run_convert_bytes_string w s t e _ _ _ hs' he ht, run_bytesToString w ad ns.length cap ns hrun2, ofInts]
theorem PO_slice_M {α : Type} {f : α → List AV} {t e : TypeId} {S : Nat} {dd : TypeDesc} {x : Operand} {lo hi : Option Operand} {own : Own} {es : List α} {i j : Int} (ho : o.op = .slice t x lo hi none) (ht : P.underlying t = some (.slice e)) (he : TyF P e dd S) (hx : ev σ.tm x = some (.sl own S (es.map f)))
    (hl : bnd σ.tm 0 lo = some i) (hh : bnd σ.tm es.length hi = some j) (h0 : 0 ≤ i) (h1 : i ≤ j) (h2 : j ≤ es.length) : PO P ρ o σ (.sl .any S (((es.take j.toNat).drop i.toNat).map f)) := by
  have := PO_slice_sl (ρ := ρ) ho ht he hx hl (by simpa using hh) h0 h1 (by simpa using h2)
  rwa [← List.map_take, ← List.map_drop] at this
def andI (k : IntKind) (x y : Int) : Int := k.wrap (BitVec.ofInt k.bits x &&& BitVec.ofInt k.bits y).toNat
def orI (k : IntKind) (x y : Int) : Int := k.wrap (BitVec.ofInt k.bits x ||| BitVec.ofInt k.bits y).toNat
def shlI (k : IntKind) (x y : Int) : Int := k.wrap (x * 2 ^ (min y.toNat k.bits))
def shrI (k : IntKind) (x y : Int) : Int := x.fdiv (2 ^ (min y.toNat k.bits))
theorem tmodE {x y : Int} (h : 0 ≤ x) : x.tmod y = x % y := Int.tmod_eq_emod_of_nonneg h
theorem quoE {x y : Int} (h : 0 ≤ x) (h2 : x ≤ 9223372036854775807) (h3 : 1 ≤ y) : IntKind.i64.wrap (x.tdiv y) = x / y := by
  rw [Int.tdiv_eq_ediv_of_nonneg h]
  have h4 : x / y ≤ x := Int.ediv_le_self y h
  have h5 : 0 ≤ x / y := Int.ediv_nonneg h (by omega)
  exact i64w (by omega) (by omega)
theorem PO_convU8 {x : Operand} {s t : TypeId} {c : UInt8} {ds : TypeDesc} (ho : o.op = .convert s t x) (hs' : P.underlying s = some ds) (ht : P.underlying t = some (.int .i64)) (hx : ev σ.tm x = some (.lit (.int .u8 (c.toNat : Int)))) :
    PO P ρ o σ (.lit (.int .i64 (c.toNat : Int))) := by
  have := PO_convInt (ρ := ρ) ho hs' ht hx
  have hc : (c.toNat : Int) < 256 := by have := c.toNat_lt; omega
  rwa [i64w (by omega) (by omega)] at this
end
end Go.AM
end
