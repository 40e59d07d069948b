/- A part of the proof: walks of the code and laws that they use (Br, Am23, Am24, Am25). Conditions: as each theorem names them. -/
import Derived.Test.YtdognapppnfpiaaGreatDoorRows
import Derived.ProofKit
import Derived.OpenShut
import Derived.ReadAgain
import Derived.Deep.Slices
import Derived.Test.YtdognapppnfpiaaGreatDoorC12
section
set_option maxRecDepth 100000
set_option linter.unusedVariables false
set_option linter.unusedSimpArgs false
namespace Go.AM
open Go.RowKit
def imm (W : World) : Imm := ⟨fun b o => W.cell? ⟨b, o, none⟩, fun _ => none, fun _ => none⟩
theorem wr_imm (W : World) : WR W.heap.size (imm W) (fun _ => none) W := ⟨fun _ _ _ h => h, fun _ _ h => (by cases h), fun _ _ h => (by cases h), fun _ _ h => (by cases h)⟩
theorem calls_of {P : Program} {f : Nat} {fn : Func} {avs : List AV} {args : Array Value} {v : Value} {W : World} (hf : P.funcs[f]? = some fn) (hb : fn.body.isSome = true) (hname : (fn.name == "runtime.NumGoroutine") = false)
    (h : PFn P (.fn (.func f) [] []) avs (.lit v)) (hv : VRs (imm W) avs args) : Calls P f args W fun e w' => e = .returned v ∧ Below W.heap.size W w' := by
  obtain ⟨d, h1, h2⟩ := h (fun _ => none) W.heap.size (imm W) W (.func (.func f) #[] #[]) args (Nat.le_refl _) (wr_imm W) (.fn _ _ _ _ _ rfl rfl (by simp) (by simp)) hv
  have hd : d = { target := .fn (.func f) #[], args := #[] ++ args } := by
    have := h1 W
    simp [Deferred.ofValue] at this
    rw [← this]; simp
  subst hd
  obtain ⟨c, hc⟩ := Option.isSome_iff_exists.1 hb
  have hname' : ¬ fn.name = "runtime.NumGoroutine" := by simpa using hname
  have hrun : (invoke (.fn (.func f) #[]) (#[] ++ args)).run P W = .ok (.enter f (#[] ++ args ++ #[])) W := by
    simp [invoke, callFunc, hf, hc, hname']
  simp only [hrun] at h2
  have e : #[] ++ args ++ #[] = args := by simp
  rw [e] at h2
  refine (h2.calls (fun _ => room_wide _)).mono fun e w' hr => ?_
  obtain ⟨u, rfl, I', a, h', k1, k2, k3, k4, k5, rfl, k6⟩ := hr
  exact ⟨by rw [VR.lit_inv k3], k4.toBelow⟩
theorem vr_lits {I : Imm} {vs : List Value} (h : ∀ v ∈ vs, v.oneCell' = true) : ∀ (j : Nat) (a : AV), (vs.map AV.lit)[j]? = some a → VR I a (vs.getD j default) := by
  intro j a e
  rw [List.getElem?_map, Option.map_eq_some_iff] at e
  obtain ⟨v, hv, rfl⟩ := e
  rw [List.getD_eq_getElem?_getD, hv]
  exact .lit v (h v (List.mem_of_getElem? hv))
theorem split2 {α : Type} {cs : List α} {a b : Nat} (h : cs.length = a + b) : cs = (cs.drop 0).take a ++ (cs.drop a).take b := by
  rw [List.drop_zero, List.take_of_length_le (l := cs.drop a) (by simp; omega), List.take_append_drop]
end Go.AM
namespace Go.AM.Tryd
open Go Go.AM Go.AM.D Go.RowKit Go.Deep
open Go.Proofs.YtdognapppnfpiaaGreatDoor (Rows.uptoBulk Rows.uptoBulkAll)
abbrev blk {H : Type} (d : DataW H) : Nat := Go.Proofs.YtdognapppnfpiaaGreatDoor.Rows.uptoBulk d
abbrev blks {H : Type} (d : List (DataW H)) : Nat := Go.Proofs.YtdognapppnfpiaaGreatDoor.Rows.uptoBulkAll d
theorem blks_cons {H : Type} (d : DataW H) (l : List (DataW H)) : blks (d :: l) = blk d + blks l := by simp only [Go.Proofs.YtdognapppnfpiaaGreatDoor.Rows.uptoBulkAll]
theorem blk_one {H : Type} (d : DataW H) : 1 ≤ blk d := by
  cases d with
  | lit l => cases l <;> simp [Go.Proofs.YtdognapppnfpiaaGreatDoor.Rows.uptoBulk]
  | _ => simp [Go.Proofs.YtdognapppnfpiaaGreatDoor.Rows.uptoBulk]
theorem blk_part {H : Type} {d : DataW H} : ∀ {l : List (DataW H)}, d ∈ l → blk d ≤ blks l
  | x :: r, h => by
    rw [blks_cons]
    rcases List.mem_cons.1 h with rfl | h
    · omega
    · have := blk_part h; omega
theorem blk_len {H : Type} : ∀ (l : List (DataW H)), l.length ≤ blks l
  | [] => by simp
  | x :: r => by rw [blks_cons]; have := blk_one x; have := blk_len r; simp only [List.length_cons]; omega
theorem blk_agg {H : Type} (l : List (DataW H)) : blk (.agg l) = blks l + 1 := by simp only [Go.Proofs.YtdognapppnfpiaaGreatDoor.Rows.uptoBulk]
theorem blk_slice {H : Type} (l s : List (DataW H)) : blk (.slice l s) = blks l + blks s + 1 := by simp only [Go.Proofs.YtdognapppnfpiaaGreatDoor.Rows.uptoBulk]
theorem blk_str {H : Type} (s : ByteArray) : blk (H := H) (.lit (.string s.data.toList)) = s.size + 1 := by
  simp only [Go.Proofs.YtdognapppnfpiaaGreatDoor.Rows.uptoBulk]
  rw [Array.length_toList]; rfl
def vTerm (t : Term) : List Value := [.int .i64 t.kind, .string t.text, .string t.extra]
def vSlot (s : Slot) : List Value := .string s.var :: vTerm s.term
def vPat (p : Pat) : List Value := vSlot p.a ++ (vSlot p.b ++ vSlot p.c)
def vLit (l : Lt) : List Value := .int .i64 l.kind :: (vPat l.pat ++ (vSlot l.a ++ vSlot l.b))
theorem eTerm_v (t : Term) : eTerm t = (vTerm t).map .lit := rfl
theorem eSlot_v (t : Slot) : eSlot t = (vSlot t).map .lit := rfl
theorem ePat_v (t : Pat) : ePat t = (vPat t).map .lit := rfl
theorem eLit_v (t : Lt) : eLit t = (vLit t).map .lit := rfl
theorem vSlot_one (s : Slot) : ∀ v ∈ vSlot s, v.oneCell' = true := by
  intro v hv; simp only [vSlot, vTerm, List.mem_cons, List.not_mem_nil, or_false] at hv
  rcases hv with rfl | rfl | rfl | rfl <;> rfl
theorem vPat_one (p : Pat) : ∀ v ∈ vPat p, v.oneCell' = true := by
  intro v hv; simp only [vPat, List.mem_append] at hv
  rcases hv with h | h | h <;> exact vSlot_one _ v h
theorem vLit_one (l : Lt) : ∀ v ∈ vLit l, v.oneCell' = true := by
  intro v hv; simp only [vLit, List.mem_cons, List.mem_append] at hv
  rcases hv with rfl | h | h | h
  · rfl
  · exact vPat_one _ v h
  · exact vSlot_one _ v h
  · exact vSlot_one _ v h
theorem vSlot_len (s : Slot) : (vSlot s).length = 4 := rfl
theorem vPat_len (s : Pat) : (vPat s).length = 12 := rfl
theorem vLit_len (s : Lt) : (vLit s).length = 21 := rfl
theorem c9 : PR.cellsOf i9 = 1 := by kernel_rfl
theorem c23 : PR.cellsOf i23 = 1 := by kernel_rfl
theorem c66 : PR.cellsOf i66 = 1 := by kernel_rfl
theorem c44 : PR.cellsOf i44 = 1 := by kernel_rfl
theorem c25 : PR.cellsOf i25 = 3 := by kernel_rfl
theorem c41 : PR.cellsOf i41 = 4 := by kernel_rfl
theorem c43 : PR.cellsOf i43 = 12 := by kernel_rfl
theorem c68 : PR.cellsOf i68 = 21 := by kernel_rfl
theorem c46 : PR.cellsOf i46 = 13 := by kernel_rfl
section
variable {H : Type} {enc : TypeId × Value → H} {W : World} {sp : Nat → Bool} {hd : Bool} {n : Nat} {cs : List Value} {x : DataW H × List MemPlace}
def bT (B : Nat) (t : Term) : Prop := t.text.size ≤ B ∧ t.extra.size ≤ B
def bS (B : Nat) (s : Slot) : Prop := s.var.size ≤ B ∧ bT B s.term
def bP (B : Nat) (p : Pat) : Prop := bS B p.a ∧ bS B p.b ∧ bS B p.c
def bL (B : Nat) (l : Lt) : Prop := bP B l.pat ∧ bS B l.a ∧ bS B l.b
theorem bT.le {B C : Nat} {t : Term} (h : bT B t) (k : B ≤ C) : bT C t := ⟨Nat.le_trans h.1 k, Nat.le_trans h.2 k⟩
theorem bS.le {B C : Nat} {t : Slot} (h : bS B t) (k : B ≤ C) : bS C t := ⟨Nat.le_trans h.1 k, h.2.le k⟩
theorem bP.le {B C : Nat} {t : Pat} (h : bP B t) (k : B ≤ C) : bP C t := ⟨h.1.le k, h.2.1.le k, h.2.2.le k⟩
theorem bL.le {B C : Nat} {t : Lt} (h : bL B t) (k : B ≤ C) : bL C t := ⟨h.1.le k, h.2.1.le k, h.2.2.le k⟩
theorem get3 {xs : List (DataW H × List MemPlace)} (h : xs.length = 3) : ∃ a b c, xs = [a, b, c] := by
  rcases xs with _ | ⟨a, _ | ⟨b, _ | ⟨c, _ | ⟨d, r⟩⟩⟩⟩ <;> simp at h
  exact ⟨a, b, c, rfl⟩
theorem get2 {xs : List (DataW H × List MemPlace)} (h : xs.length = 2) : ∃ a b, xs = [a, b] := by
  rcases xs with _ | ⟨a, _ | ⟨b, _ | ⟨c, r⟩⟩⟩ <;> simp at h
  exact ⟨a, b, rfl⟩
theorem get4 {xs : List (DataW H × List MemPlace)} (h : xs.length = 4) : ∃ a b c d, xs = [a, b, c, d] := by
  rcases xs with _ | ⟨a, _ | ⟨b, _ | ⟨c, _ | ⟨d, _ | ⟨e, r⟩⟩⟩⟩⟩ <;> simp at h
  exact ⟨a, b, c, d, rfl⟩
theorem rd_term (h : DataW.trod enc PR W 0 sp hd n i25 cs = some x) : ∃ t : Term, cs = vTerm t ∧ bT (blk x.1) t := by
  obtain ⟨xs, m, rfl, rfl, hl, hxl, hf⟩ := DataW.trod_struct Go.Proofs.Tryz.underlying34 h
  obtain ⟨y0, y1, y2, rfl⟩ := get3 hxl
  have h0 : DataW.trod enc PR W 0 sp hd m i23 ((cs.drop 0).take (PR.cellsOf i23)) = some y0 := hf 0 _ rfl
  have h1 : DataW.trod enc PR W 0 sp hd m i9 ((cs.drop 1).take (PR.cellsOf i9)) = some y1 := hf 1 _ rfl
  have h2 : DataW.trod enc PR W 0 sp hd m i9 ((cs.drop 2).take (PR.cellsOf i9)) = some y2 := hf 2 _ rfl
  rw [c25] at hl
  simp only [c23, c9, List.getElem?_cons_zero, List.getElem?_cons_succ] at h0 h1 h2
  obtain ⟨k, e0, f0, -⟩ := DataW.trod_int Go.Proofs.Tryz.underlying32 h0
  obtain ⟨s, e1, f1, -⟩ := DataW.trod_string Go.Proofs.Tryz.underlying9 h1
  obtain ⟨u, e2, f2, -⟩ := DataW.trod_string Go.Proofs.Tryz.underlying9 h2
  subst f0; subst f1; subst f2
  refine ⟨⟨k, s, u⟩, ?_, ?_⟩
  · rcases cs with _ | ⟨a, _ | ⟨b, _ | ⟨c, _ | ⟨d, r⟩⟩⟩⟩ <;> simp at hl
    simp at e0 e1 e2
    subst e0; subst e1; subst e2; rfl
  · simp only [bT, List.map_cons, List.map_nil, blk_agg, blks_cons, blk_str]
    omega
theorem rd_slot (h : DataW.trod enc PR W 0 sp hd n i41 cs = some x) : ∃ t : Slot, cs = vSlot t ∧ bS (blk x.1) t := by
  obtain ⟨xs, m, rfl, rfl, hl, hxl, hf⟩ := DataW.trod_struct Go.Proofs.Tryz.underlying36 h
  obtain ⟨y0, y1, rfl⟩ := get2 hxl
  have h0 : DataW.trod enc PR W 0 sp hd m i9 ((cs.drop 0).take (PR.cellsOf i9)) = some y0 := hf 0 _ rfl
  have h1 : DataW.trod enc PR W 0 sp hd m i25 ((cs.drop 1).take (PR.cellsOf i25)) = some y1 := hf 1 _ rfl
  rw [c41] at hl
  simp only [c9, c25, List.getElem?_cons_zero, List.getElem?_cons_succ] at h0 h1
  obtain ⟨s, e0, f0, -⟩ := DataW.trod_string Go.Proofs.Tryz.underlying9 h0
  obtain ⟨t, e1, b1⟩ := rd_term h1
  subst f0
  refine ⟨⟨s, t⟩, ?_, ?_, b1.le ?_⟩
  · rw [split2 (a := 1) (b := 3) hl, e0, e1]; rfl
  · simp only [List.map_cons, List.map_nil, blk_agg, blks_cons, blk_str]; omega
  · simp only [List.map_cons, List.map_nil, blk_agg, blks_cons, blk_str]; omega
theorem rd_pat (h : DataW.trod enc PR W 0 sp hd n i43 cs = some x) : ∃ t : Pat, cs = vPat t ∧ bP (blk x.1) t := by
  obtain ⟨xs, m, rfl, rfl, hl, hxl, hf⟩ := DataW.trod_array Go.Proofs.Tryz.underlying38 h
  obtain ⟨y0, y1, y2, rfl⟩ := get3 hxl
  have h0 : DataW.trod enc PR W 0 sp hd m i41 ((cs.drop (0 * PR.cellsOf i41)).take (PR.cellsOf i41)) = some y0 := hf 0 (by omega)
  have h1 : DataW.trod enc PR W 0 sp hd m i41 ((cs.drop (1 * PR.cellsOf i41)).take (PR.cellsOf i41)) = some y1 := hf 1 (by omega)
  have h2 : DataW.trod enc PR W 0 sp hd m i41 ((cs.drop (2 * PR.cellsOf i41)).take (PR.cellsOf i41)) = some y2 := hf 2 (by omega)
  rw [c43] at hl
  simp only [c41, List.getElem?_cons_zero, List.getElem?_cons_succ] at h0 h1 h2
  obtain ⟨a, e0, b0⟩ := rd_slot h0
  obtain ⟨b, e1, b1⟩ := rd_slot h1
  obtain ⟨c, e2, b2⟩ := rd_slot h2
  refine ⟨⟨a, b, c⟩, ?_, b0.le ?_, b1.le ?_, b2.le ?_⟩
  · have e := split2 (a := 4) (b := 8) hl
    have e' := split2 (cs := (cs.drop 4).take 8) (a := 4) (b := 4) (by simp; omega)
    rw [e, show (cs.drop 0).take 4 = vSlot a from e0, e']
    have k1 : (((cs.drop 4).take 8).drop 0).take 4 = vSlot b := by rw [List.drop_zero, List.take_take]; exact e1
    have k2 : (((cs.drop 4).take 8).drop 4).take 4 = vSlot c := by rw [List.drop_take, List.drop_drop, List.take_take]; exact e2
    rw [k1, k2]; rfl
  all_goals simp only [List.map_cons, List.map_nil, blk_agg, blks_cons]; omega
theorem rd_lit (h : DataW.trod enc PR W 0 sp hd n i68 cs = some x) : ∃ t : Lt, cs = vLit t ∧ bL (blk x.1) t := by
  obtain ⟨xs, m, rfl, rfl, hl, hxl, hf⟩ := DataW.trod_struct Go.Proofs.Tryz.underlying70 h
  obtain ⟨y0, y1, y2, y3, rfl⟩ := get4 hxl
  have h0 : DataW.trod enc PR W 0 sp hd m i66 ((cs.drop 0).take (PR.cellsOf i66)) = some y0 := hf 0 _ rfl
  have h1 : DataW.trod enc PR W 0 sp hd m i43 ((cs.drop 1).take (PR.cellsOf i43)) = some y1 := hf 1 _ rfl
  have h2 : DataW.trod enc PR W 0 sp hd m i41 ((cs.drop 13).take (PR.cellsOf i41)) = some y2 := hf 2 _ rfl
  have h3 : DataW.trod enc PR W 0 sp hd m i41 ((cs.drop 17).take (PR.cellsOf i41)) = some y3 := hf 3 _ rfl
  rw [c68] at hl
  simp only [c66, c43, c41, List.getElem?_cons_zero, List.getElem?_cons_succ] at h0 h1 h2 h3
  obtain ⟨k, e0, f0, -⟩ := DataW.trod_int Go.Proofs.Tryz.underlying68 h0
  obtain ⟨p, e1, b1⟩ := rd_pat h1
  obtain ⟨a, e2, b2⟩ := rd_slot h2
  obtain ⟨b, e3, b3⟩ := rd_slot h3
  refine ⟨⟨k, p, a, b⟩, ?_, b1.le ?_, b2.le ?_, b3.le ?_⟩
  · have e := split2 (a := 1) (b := 20) hl
    have e' := split2 (cs := (cs.drop 1).take 20) (a := 12) (b := 8) (by simp; omega)
    have e2' := split2 (cs := (cs.drop 13).take 8) (a := 4) (b := 4) (by simp; omega)
    rw [e, e0, e']
    have k1 : (((cs.drop 1).take 20).drop 0).take 12 = vPat p := by rw [List.drop_zero, List.take_take]; exact e1
    have k2 : (((cs.drop 1).take 20).drop 12).take 8 = (cs.drop 13).take 8 := by rw [List.drop_take, List.drop_drop, List.take_take]; rfl
    have k3 : (((cs.drop 13).take 8).drop 0).take 4 = vSlot a := by rw [List.drop_zero, List.take_take]; exact e2
    have k4 : (((cs.drop 13).take 8).drop 4).take 4 = vSlot b := by rw [List.drop_take, List.drop_drop, List.take_take]; exact e3
    rw [k1, k2, e2', k3, k4]; rfl
  all_goals simp only [List.map_cons, List.map_nil, blk_agg, blks_cons]; omega
end
theorem rd_slice {H : Type} {enc : TypeId × Value → H} {W : World} {α : Type} [Inhabited α] {f : α → List AV} {S : Nat} {t e : TypeId} {n : Nat} {v : Value} {x : DataW H × List MemPlace} {Q : Nat → α → Prop} (ht : PR.underlying t = some (.slice e)) (hS : PR.cellsOf e = S) (hpos : 0 < S)
    (hq : ∀ {m : Nat} {cs : List Value} {y : DataW H × List MemPlace}, DataW.trod enc PR W 0 (fun _ => true) true m e cs = some y → ∃ a : α, (f a).length = S ∧ (∀ b ∈ f a, AV.cell b = true) ∧ (∀ (j : Nat) (b : AV), (f a)[j]? = some b → VR (imm W) b (cs.getD j default)) ∧ Q (blk y.1) a)
    (hle : ∀ {B C : Nat} {a : α}, Q B a → B ≤ C → Q C a) (h : DataW.trod enc PR W 0 (fun _ => true) true n t [v] = some x) : ∃ l : List α, VR (imm W) (.sl .any S (l.map f)) v ∧ l.length ≤ blk x.1 ∧ ∀ a ∈ l, Q (blk x.1) a := by
  rcases Deep.open_slice ht h with ⟨e1, rfl⟩ | ⟨a, len, cap, m, k, D, Pl, e1, hb, hlc, hcm, hm, rfl, hx⟩
  · injection e1 with e1
    subst e1
    exact ⟨[], .slnil _ _ (.inr rfl), by simp, by simp⟩
  · injection e1 with e1
    subst e1
    simp only [if_true] at hm
    subst hm
    rw [hS] at hx
    obtain ⟨C, hC⟩ := Deep.choose_lt (n := m) (p := fun i cs' => W.cells? 0 (a.add (i * S)) S = some cs' ∧ DataW.trod enc PR W 0 (fun _ => true) true k e cs' = some (D i, Pl i)) hx
    obtain ⟨A, hA⟩ := Deep.choose_lt (n := m) (p := fun i (a : α) => (f a).length = S ∧ (∀ b ∈ f a, AV.cell b = true) ∧ (∀ (j : Nat) (b : AV), (f a)[j]? = some b → VR (imm W) b ((C i).getD j default)) ∧ Q (blk (D i)) a) fun i hi => hq (hC i hi).2
    have hspot : len = 0 ∨ a.spot = none := by
      rcases Nat.eq_zero_or_pos len with h0 | h0
      · exact .inl h0
      · right
        obtain ⟨_, _, h3⟩ := World.cells?_some (hC 0 (by omega)).1
        have h4 := h3 0 hpos
        have h5 : (C 0).length = S := (World.cells?_some (hC 0 (by omega)).1).2.1
        rw [List.getElem?_eq_getElem (by omega)] at h4
        have := World.cell?_spot h4
        simpa [Addr.add] using this
    have hbulk : ∀ i, i < len → blk (D i) ≤ blk (DataW.slice ((List.range len).map D) ((List.range (m - len)).map fun j => D (len + j))) := by
      intro i hi
      rw [blk_slice]
      have := blk_part (l := (List.range len).map D) (d := D i) (List.mem_map.2 ⟨i, List.mem_range.2 hi, rfl⟩)
      omega
    refine ⟨(List.range len).map A, ?_, ?_, ?_⟩
    · have hlen : (((List.range len).map A).map f).length = len := by simp
      have hv : VR (imm W) (.sl .any S (((List.range len).map A).map f)) (.slice (some a) (((List.range len).map A).map f).length m) := by
        refine .sl _ _ _ _ _ (fun i j => (C i).getD j default) ⟨by rw [hlen]; exact hspot, by rw [hlen]; exact hlc, trivial⟩ ?_ ?_ ?_ ?_
        · intro es hes
          simp only [List.map_map, List.mem_map, List.mem_range] at hes
          obtain ⟨i, hi, rfl⟩ := hes
          exact (hA i (by omega)).1
        · intro es hes
          simp only [List.map_map, List.mem_map, List.mem_range] at hes
          obtain ⟨i, hi, rfl⟩ := hes
          exact (hA i (by omega)).2.1
        · intro i es j b h1 h2
          have hi : i < len := by rw [← hlen]; exact (List.getElem?_eq_some_iff.1 h1).1
          rw [List.getElem?_map, List.getElem?_map, List.getElem?_range hi] at h1
          simp only [Option.map_some, Option.some.injEq] at h1
          subst h1
          have hj : j < S := by rw [← (hA i (by omega)).1]; exact (List.getElem?_eq_some_iff.1 h2).1
          obtain ⟨_, h5, h3⟩ := World.cells?_some (hC i (by omega)).1
          have h4 := h3 j hj
          rw [List.getElem?_eq_getElem (by omega), Deep.add_add, add_plain a (hspot.resolve_left (by omega))] at h4
          show W.cell? ⟨a.block, a.off + i * S + j, none⟩ = _
          rw [Nat.add_assoc, h4, List.getD_eq_getElem?_getD, List.getElem?_eq_getElem (by omega)]; rfl
        · intro i es j b h1 h2
          have hi : i < len := by rw [← hlen]; exact (List.getElem?_eq_some_iff.1 h1).1
          rw [List.getElem?_map, List.getElem?_map, List.getElem?_range hi] at h1
          simp only [Option.map_some, Option.some.injEq] at h1
          subst h1
          exact (hA i (by omega)).2.2.1 j b h2
      rwa [hlen] at hv
    · have h1 := blk_len ((List.range len).map D)
      rw [List.length_map, List.length_range] at h1 ⊢
      rw [blk_slice]; omega
    · intro y hy
      simp only [List.mem_map, List.mem_range] at hy
      obtain ⟨i, hi, rfl⟩ := hy
      exact hle (hA i (by omega)).2.2.2 (hbulk i hi)
instance : Inhabited Lt := ⟨litS 0 ⟨#[]⟩⟩
instance : Inhabited Rule := ⟨rNil⟩
theorem lit_cell {vs : List Value} (h : ∀ v ∈ vs, v.oneCell' = true) : ∀ b ∈ vs.map AV.lit, AV.cell b = true := by
  intro b hb
  obtain ⟨v, hv, rfl⟩ := List.mem_map.1 hb
  exact h v hv
theorem rd_body {H : Type} {enc : TypeId × Value → H} {W : World} {n : Nat} {v : Value} {x : DataW H × List MemPlace} (h : DataW.trod enc PR W 0 (fun _ => true) true n i44 [v] = some x) : ∃ l : List Lt, VR (imm W) (.sl .any 21 (l.map eLit)) v ∧ l.length ≤ blk x.1 ∧ ∀ a ∈ l, bL (blk x.1) a :=
  rd_slice (Q := bL) Go.Proofs.Tryz.underlying39 c68 (by omega) (fun hy => by
    obtain ⟨t, rfl, hb⟩ := rd_lit hy
    exact ⟨t, by rw [eLit_v, List.length_map, vLit_len], by rw [eLit_v]; exact lit_cell (vLit_one t), by rw [eLit_v]; exact vr_lits (vLit_one t), hb⟩) (fun h k => h.le k) h
def bR (B : Nat) (r : Rule) : Prop := bP B r.head ∧ r.body.length ≤ B ∧ ∀ l ∈ r.body, bL B l
theorem bR.le {B C : Nat} {r : Rule} (h : bR B r) (k : B ≤ C) : bR C r := ⟨h.1.le k, Nat.le_trans h.2.1 k, fun l hl => (h.2.2 l hl).le k⟩
theorem rd_rule {H : Type} {enc : TypeId × Value → H} {W : World} {n : Nat} {cs : List Value} {x : DataW H × List MemPlace} (h : DataW.trod enc PR W 0 (fun _ => true) true n i46 cs = some x) :
    ∃ r : Rule, (eRule r).length = 13 ∧ (∀ b ∈ eRule r, AV.cell b = true) ∧ (∀ (j : Nat) (b : AV), (eRule r)[j]? = some b → VR (imm W) b (cs.getD j default)) ∧ bR (blk x.1) r := by
  obtain ⟨xs, m, rfl, rfl, hl, hxl, hf⟩ := DataW.trod_struct Go.Proofs.Tryz.underlying41 h
  obtain ⟨y0, y1, rfl⟩ := get2 hxl
  have h0 : DataW.trod enc PR W 0 (fun _ => true) true m i43 ((cs.drop 0).take (PR.cellsOf i43)) = some y0 := hf 0 _ rfl
  have h1 : DataW.trod enc PR W 0 (fun _ => true) true m i44 ((cs.drop 12).take (PR.cellsOf i44)) = some y1 := hf 1 _ rfl
  rw [c46] at hl
  simp only [c43, c44, List.getElem?_cons_zero, List.getElem?_cons_succ] at h0 h1
  obtain ⟨p, e0, b0⟩ := rd_pat h0
  obtain ⟨v, ev⟩ : ∃ v, (cs.drop 12).take 1 = [v] := by
    have hlen : ((cs.drop 12).take 1).length = 1 := by simp; omega
    rcases hq : (cs.drop 12).take 1 with _ | ⟨v, _ | ⟨u, r⟩⟩ <;> rw [hq] at hlen <;> simp at hlen
    exact ⟨v, rfl⟩
  rw [ev] at h1
  obtain ⟨b, hv, hbl, hbL⟩ := rd_body h1
  have hcs : cs = vPat p ++ [v] := by rw [split2 (a := 12) (b := 1) hl, ev, show (cs.drop 0).take 12 = vPat p from e0]
  refine ⟨⟨p, b⟩, rfl, fun y hy => ?_, fun j y hy => ?_, ?_⟩
  · rcases List.mem_append.1 hy with hy | hy
    · exact lit_cell (vPat_one p) y hy
    · rw [List.mem_singleton] at hy; subst hy; rfl
  · rw [hcs]
    have hpl : (ePat p).length = 12 := rfl
    have hvl : (vPat p).length = 12 := rfl
    have hy' : (ePat p ++ [eBody b])[j]? = some y := hy
    by_cases c : j < 12
    · rw [List.getElem?_append_left (by omega)] at hy'
      rw [List.getD_eq_getElem?_getD, List.getElem?_append_left (by omega), ← List.getD_eq_getElem?_getD]
      exact vr_lits (vPat_one p) j y hy'
    · rw [List.getElem?_append_right (by omega), hpl] at hy'
      have hj : j - 12 = 0 := by have := (List.getElem?_eq_some_iff.1 hy').1; simpa using this
      rw [hj] at hy'
      injection hy' with hy'
      subst hy'
      rw [List.getD_eq_getElem?_getD, List.getElem?_append_right (by omega), hvl, hj]
      exact hv
  · refine ⟨b0.le ?_, Nat.le_trans hbl ?_, fun l hlm => (hbL l hlm).le ?_⟩
    all_goals simp only [List.map_cons, List.map_nil, blk_agg, blks_cons]; omega
theorem rd_rules {H : Type} {enc : TypeId × Value → H} {W : World} {n : Nat} {v : Value} {x : DataW H × List MemPlace} (h : DataW.trod enc PR W 0 (fun _ => true) true n i22 [v] = some x) : ∃ l : List Rule, VR (imm W) (.sl .any 13 (l.map eRule)) v ∧ l.length ≤ blk x.1 ∧ ∀ a ∈ l, bR (blk x.1) a :=
  rd_slice (Q := bR) Go.Proofs.Tryz.underlying22 c46 (by omega) (fun hy => rd_rule hy) (fun h k => h.le k) h
theorem okRs_of {B : Nat} {l : List Rule} (hB : B ≤ 1048576) (hl : l.length ≤ B) (h : ∀ a ∈ l, bR B a) : okRs l :=
  ⟨by omega, fun r hr => (h r hr).le hB⟩
theorem kids : Kids PR (· < PR.types.size) := kids_rows (by kernel_rfl) (by kernel_rfl)
theorem full : ∀ t e, t < PR.types.size → PR.underlying t = some (.slice e) → 0 < PR.cellsOf e := slices_full_of PR (by kernel_rfl)
theorem trodAll_carry {H : Type} {enc : TypeId × Value → H} {P : Program} {w w' : World} {base : Nat} {spare : Nat → Bool} {held : Bool} : ∀ {ts : List TypeId} {vs : List Value} {ds : List (DataW H)} {ps : List MemPlace}, DataW.TrodAll enc P w base spare held ts vs ds ps → (∀ p ∈ ps, w.sameAt w' p) → DataW.TrodAll enc P w' base spare held ts vs ds ps
  | [], [], [], _, h, _ => h
  | _ :: _, _ :: _, _ :: _, _, ⟨p, q, ⟨n, h1⟩, h2, e⟩, hs => ⟨p, q, ⟨n, DataW.trod_carry n _ _ _ h1 fun x hx => hs x (by rw [e]; exact List.mem_append_left _ hx)⟩, trodAll_carry h2 fun x hx => hs x (by rw [e]; exact List.mem_append_right _ hx), e⟩
end Go.AM.Tryd
end
section
set_option linter.unusedVariables false
set_option linter.unusedSimpArgs false
namespace Go.AM
open Go.RowKit
def chainE (l : List Oper) : List Nat → Bool
  | a :: b :: r => edgeB l b a && chainE l (b :: r)
  | _ => true
theorem chainE_get {l : List Oper} : ∀ {E : List Nat} {j a b : Nat}, chainE l E = true → E[j]? = some a → E[j + 1]? = some b → edgeB l b a = true
  | [], j, a, b, _, h, _ => by simp at h
  | [x], j, a, b, _, h, h' => by cases j <;> simp at h'
  | x :: y :: r, j, a, b, hc, h, h' => by
    simp only [chainE, Bool.and_eq_true] at hc
    cases j with
    | zero => simp at h h'; subst h; subst h'; exact hc.1
    | succ j => exact chainE_get hc.2 (by simpa using h) (by simpa using h')
def KnowE (l : List Oper) (pl : Nat → Bool) (tm : List (Nat × AV)) (vals : List AV) : List (Nat × AV) → Prop
  | [] => True
  | p :: r => ((∃ j, pl j = true ∧ dstAt l j = some p.1 ∧ vals[j]? = some p.2) ∨ (notDst l p.1 = true ∧ look tm p.1 = some p.2)) ∧ KnowE l pl tm vals r
theorem KnowE.all {l : List Oper} {pl : Nat → Bool} {tm : List (Nat × AV)} {vals : List AV} : ∀ {tmx : List (Nat × AV)}, KnowE l pl tm vals tmx → ∀ p ∈ tmx, (∃ j, pl j = true ∧ dstAt l j = some p.1 ∧ vals[j]? = some p.2) ∨ (notDst l p.1 = true ∧ look tm p.1 = some p.2)
  | [], _, p, h => by cases h
  | q :: r, hn, p, h => by
    rcases List.mem_cons.1 h with rfl | h
    · exact hn.1
    · exact KnowE.all hn.2 p h
section
variable {P : Program} {ρ : Option Nat} {Q : Exit → AS → Prop} {ops : Array Oper} {l : List Oper} {n : Nat} {tm : List (Nat × AV)} {h h0 : Heap} {ms : List Nat} {id : Nat}
theorem AW_drawS (Eff : List Nat) (Hs : List Heap) (vals : List AV) (tm' : List (Nat × AV)) (KK : Heap → Prop)
    (hl : ops.toList = l) (hm : P.follows .mixedOrders = true) (hok : drawOk2 l.length l = true) (hgd : (l.all fun o => o.guard.isNone && dstOk n o.dst) = true) (hnd : (Eff.zipIdx.all fun (e, i) => Eff.zipIdx.all fun (e', i') => Nat.beq i i' || !Nat.beq e e') = true) (hvl : vals.length = l.length)
    (hch : chainE l Eff = true) (hHl : Hs.length = Eff.length + 1) (hh0 : Hs[0]? = some h) (hKK : ∀ x ∈ Hs, KK x)
    (steps : ∀ hh, KK hh → StepsE P ρ l (plainB Eff []) ⟨n, tm, hh, ms, h0⟩ vals 0 l vals)
    (effs : ∀ (j e : Nat), Eff[j]? = some e → ∃ o tmx, l[e]? = some o ∧ NeedsE l (plainB Eff []) tm vals e tmx ∧ ∀ a b, Hs[j]? = some a → Hs[j + 1]? = some b → MO P ρ o ⟨n, tmx, a, ms, h0⟩ (fun _ h' => h' = b))
    (hknow : KnowE l (plainB Eff []) tm vals tm') (k : ∀ hf, Hs[Eff.length]? = some hf → AL P ρ ops [] Q ⟨n, tm', hf, ms, h0⟩) : AW P ρ (.region id ops true) Q ⟨n, tm, h, ms, h0⟩ := by
  refine AW_drawE Eff [] vals tm' (fun xs hh => ∃ c, c ≤ Eff.length ∧ Hs[c]? = some hh ∧ ∀ j, j < Eff.length → effB xs j = decide (j < c)) (fun _ => []) hl hm hok hgd hnd hvl rfl rfl ⟨0, by omega, hh0, fun j _ => by rw [effB_rep]; simp⟩ ?_ ?_ hknow.all (fun _ _ p hp => by cases hp) ?_
  · rintro xs hh ⟨c, hc, hcc, -⟩
    exact steps hh (hKK hh (List.mem_of_getElem? hcc))
  · intro j e hj
    obtain ⟨o, tmx, ho, hn, hmo⟩ := effs j e hj
    refine ⟨o, tmx, ho, hn, ?_⟩
    rintro xs hh ⟨c, hc, hcc, hx⟩ hlen hxj hpre
    have hjl : j < Eff.length := (List.getElem?_eq_some_iff.1 hj).1
    have hcj : c = j := by
      have h1 := hx j hjl
      have h2 : effB xs j = false := by unfold effB; rw [hxj]
      rw [h2] at h1
      have h3 : ¬ j < c := by simpa using h1.symm
      rcases Nat.lt_or_ge c j with h4 | h4
      · have h5 := hpre (j - 1) _ (List.getElem?_eq_getElem (by omega)) (chainE_get (j := j - 1) hch (List.getElem?_eq_getElem (by omega)) (by rw [show j - 1 + 1 = j by omega]; exact hj))
        rw [hx (j - 1) (by omega)] at h5
        have : j - 1 < c := by simpa using h5
        omega
      · omega
    subst hcj
    have hc1 : c + 1 < Hs.length := by omega
    intro g I a w hs
    refine wpIn_oper_mono (hmo hh _ hcc (List.getElem?_eq_getElem hc1) g I a w hs) ?_ fun _ _ _ h => h
    rintro a' w' ⟨I', u, v, h', k1, k2, k3, k4, rfl⟩
    refine ⟨I', u, v, _, k1, k2, k3, k4, c + 1, by omega, List.getElem?_eq_getElem hc1, fun j' hj' => ?_⟩
    by_cases e : c = j'
    · subst e
      simp [effB, List.getElem?_set_self (show c < xs.length by omega)]
    · have h1 := hx j' hj'
      unfold effB at h1 ⊢
      rw [List.getElem?_set_ne e, h1]
      by_cases h2 : j' < c
      · simp [h2]; omega
      · simp [h2]; omega
  · rintro vs hh hlen ⟨c, hc, hcc, hx⟩
    have : c = Eff.length := by
      rcases Nat.lt_or_ge c Eff.length with h1 | h1
      · have h2 := hx c h1
        unfold effB at h2
        rw [List.getElem?_map, List.getElem?_eq_getElem (by omega)] at h2
        simp at h2
      · omega
    subst this
    exact k hh hcc
theorem Heap.upd_comm {h : Heap} {a b : Nat} (hab : a ≠ b) (x y : Option AObj) : (h.upd a x).upd b y = (h.upd b y).upd a x := by
  funext k
  by_cases h1 : k = a
  · subst h1; rw [Heap.upd_same, Heap.upd_other _ hab, Heap.upd_same]
  · rw [Heap.upd_other _ h1]
    by_cases h2 : k = b
    · subst h2; rw [Heap.upd_same, Heap.upd_same]
    · rw [Heap.upd_other _ h2, Heap.upd_other _ h2, Heap.upd_other _ h1]
theorem AW_make2 (e1 e2 c1 c2 d1 d2 : Nat) (Z1 Z2 : AObj) (f1 f2 : Nat → AV) (vals : List AV) (tm' : List (Nat × AV))
    (hl : ops.toList = l) (hm : P.follows .mixedOrders = true) (hok : drawOk2 l.length l = true) (hgd : (l.all fun o => o.guard.isNone && dstOk n o.dst) = true) (hvl : vals.length = l.length)
    (hne : Nat.beq e1 e2 = false) (hcop : copB l [e1, e2] (c1, 0) = true ∧ copB l [e1, e2] (c2, 1) = true) (hcc : (Nat.beq c1 c2 || Nat.beq c1 e1 || Nat.beq c1 e2 || Nat.beq c2 e1 || Nat.beq c2 e2) = false) (hd1 : dstAt l c1 = some d1) (hd2 : dstAt l c2 = some d2)
    (steps : ∀ hh, StepsE P ρ l (plainB [e1, e2] [(c1, 0), (c2, 1)]) ⟨n, tm, hh, ms, h0⟩ vals 0 l vals)
    (m1 : ∃ o tmx, l[e1]? = some o ∧ NeedsE l (plainB [e1, e2] [(c1, 0), (c2, 1)]) tm vals e1 tmx ∧ ∀ hh, MO P ρ o ⟨n, tmx, hh, ms, h0⟩ (fun v h' => ∃ b, hh b = none ∧ v = f1 b ∧ h' = hh.upd b (some Z1)))
    (m2 : ∃ o tmx, l[e2]? = some o ∧ NeedsE l (plainB [e1, e2] [(c1, 0), (c2, 1)]) tm vals e2 tmx ∧ ∀ hh, MO P ρ o ⟨n, tmx, hh, ms, h0⟩ (fun v h' => ∃ b, hh b = none ∧ v = f2 b ∧ h' = hh.upd b (some Z2)))
    (hknow : KnowE l (plainB [e1, e2] [(c1, 0), (c2, 1)]) tm vals tm')
    (k : ∀ a b, h a = none → h b = none → a ≠ b → AL P ρ ops [] Q ⟨n, (d1, f1 a) :: (d2, f2 b) :: tm', (h.upd a (some Z1)).upd b (some Z2), ms, h0⟩) : AW P ρ (.region id ops true) Q ⟨n, tm, h, ms, h0⟩ := by
  simp only [Bool.or_eq_false_iff] at hcc
  obtain ⟨⟨⟨⟨q1, q2⟩, q3⟩, q4⟩, q5⟩ := hcc
  have hne' : Nat.beq e2 e1 = false := by
    cases e : Nat.beq e2 e1 with
    | false => rfl
    | true => rw [Nat.eq_of_beq_eq_true e] at hne; simp at hne
  have q1' : Nat.beq c2 c1 = false := by
    cases e : Nat.beq c2 c1 with
    | false => rfl
    | true => rw [Nat.eq_of_beq_eq_true e] at q1; simp at q1
  refine AW_drawE [e1, e2] [(c1, 0), (c2, 1)] vals tm' (fun xs hh => match xs with
      | [none, none] => hh = h
      | [some v, none] => ∃ a, h a = none ∧ v = f1 a ∧ hh = h.upd a (some Z1)
      | [none, some u] => ∃ b, h b = none ∧ u = f2 b ∧ hh = h.upd b (some Z2)
      | [some v, some u] => ∃ a b, h a = none ∧ h b = none ∧ a ≠ b ∧ v = f1 a ∧ u = f2 b ∧ hh = (h.upd a (some Z1)).upd b (some Z2)
      | _ => False) (fun vs => match vs with | [v, u] => [(d1, v), (d2, u)] | _ => []) hl hm hok hgd ?_ hvl ?_ ?_ rfl ?_ ?_ hknow.all ?_ ?_
  · simp only [List.zipIdx_cons, List.zipIdx_nil, List.all_cons, List.all_nil, hne, hne', Nat.beq_refl]; rfl
  · simp only [List.all_cons, List.all_nil, List.any_cons, List.any_nil, hcop.1, hcop.2, q2, q3, q4, q5]; rfl
  · simp only [List.zipIdx_cons, List.zipIdx_nil, List.all_cons, List.all_nil, q1, q1', Nat.beq_refl]; rfl
  · intro xs hh _; exact steps hh
  · intro j e hj
    rcases j with _ | _ | j
    · simp at hj; subst hj
      obtain ⟨o, tmx, ho, hn, hmo⟩ := m1
      refine ⟨o, tmx, ho, hn, fun xs hh hK hlen hx _ => ?_⟩
      rcases xs with _ | ⟨x, _ | ⟨y, _ | ⟨z, xs⟩⟩⟩ <;> simp at hlen
      simp at hx; subst hx
      intro g I a w hs
      refine wpIn_oper_mono (hmo hh g I a w hs) ?_ fun _ _ _ h => h
      rintro a' w' ⟨I', u, v, h', k1, k2, k3, k4, b, hb, rfl, rfl⟩
      refine ⟨I', u, _, _, k1, k2, k3, k4, ?_⟩
      cases y with
      | none => subst hK; exact ⟨b, hb, rfl, rfl⟩
      | some y =>
        obtain ⟨b', hb', rfl, rfl⟩ := hK
        have hbb : b ≠ b' := by rintro rfl; simp at hb
        exact ⟨b, b', by rwa [Heap.upd_other _ hbb] at hb, hb', hbb, rfl, rfl, Heap.upd_comm hbb.symm _ _⟩
    · simp at hj; subst hj
      obtain ⟨o, tmx, ho, hn, hmo⟩ := m2
      refine ⟨o, tmx, ho, hn, fun xs hh hK hlen hx _ => ?_⟩
      rcases xs with _ | ⟨x, _ | ⟨y, _ | ⟨z, xs⟩⟩⟩ <;> simp at hlen
      simp at hx; subst hx
      intro g I a w hs
      refine wpIn_oper_mono (hmo hh g I a w hs) ?_ fun _ _ _ h => h
      rintro a' w' ⟨I', u, v, h', k1, k2, k3, k4, b, hb, rfl, rfl⟩
      refine ⟨I', u, _, _, k1, k2, k3, k4, ?_⟩
      cases x with
      | none => subst hK; exact ⟨b, hb, rfl, rfl⟩
      | some y =>
        obtain ⟨b', hb', rfl, rfl⟩ := hK
        have hbb : b ≠ b' := by rintro rfl; simp at hb
        exact ⟨b', b, hb', by rwa [Heap.upd_other _ hbb] at hb, hbb.symm, rfl, rfl, rfl⟩
    · simp at hj
  · intro vs hlen p hp
    rcases vs with _ | ⟨v, _ | ⟨u, _ | ⟨z, vs⟩⟩⟩ <;> simp at hlen
    simp at hp
    rcases hp with rfl | rfl
    · exact ⟨0, rfl, .inr ⟨c1, by simp, hd1⟩⟩
    · exact ⟨1, rfl, .inr ⟨c2, by simp, hd2⟩⟩
  · intro vs hh hlen hK
    rcases vs with _ | ⟨v, _ | ⟨u, _ | ⟨z, vs⟩⟩⟩ <;> simp at hlen
    obtain ⟨a, b, ha, hb, hab, rfl, rfl, rfl⟩ := hK
    exact k a b ha hb hab
end
end Go.AM
end
section
set_option linter.unusedVariables false
set_option linter.unusedSimpArgs false
namespace Go.AM
open Go.RowKit Go.AM.D
section
variable {P : Program} {ρ : Option Nat} {Q : Exit → AS → Prop} {σ : AS} {o : Oper} {ops : Array Oper} {l : List Oper}
theorem MO_append_src {s x : Operand} {t tx e e' : TypeId} {S bytes b k cap : Nat} {d : TypeDesc} {zs cs : List AV} {xs : List (List AV)} (ho : o.op = .call { callee := .builtin .append, args := #[s, x], argTypes := #[t, tx] })
    (ht : P.underlying t = some (.slice e)) (htx : P.underlying tx = some (.slice e')) (he : TyF P e d S) (hz : ZeroF P e zs) (hzl : zs.length = S) (hb : (P.info? e).map (·.bytes) = some bytes)
    (hse : (ev σ.tm s = some (.ms b 0 S k cap) ∧ σ.h b = some (.row cs) ∧ cs.length = cap * S ∧ k ≤ cap) ∨ (∃ S0 own0, (own0 = .nil ∨ own0 = .full) ∧ ev σ.tm s = some (.sl own0 S0 []) ∧ cs = [] ∧ k = 0 ∧ cap = 0 ∧ σ.h b = none)) (hsrcA : ∀ g I a w, SR g I σ a w → ∃ news, Src P S tx (a.eval x) xs.length news w ∧ (∀ e ∈ xs, e.length = S) ∧ (∀ e ∈ xs, ∀ a ∈ e, AV.cell a = true) ∧ ∀ k v, xs.flatten[k]? = some v → VR I v (news.getD k default)) (hpos : 0 < xs.length)
    (hlim : (k + xs.length) * bytes ≤ 140737488355328) (h63 : k + xs.length ≤ 9223372036854775807) :
    MO P ρ o σ (fun u h' => ∃ b' cap' rest, u = .ms b' 0 S (k + xs.length) cap' ∧ (σ.h b' = none ∨ b' = b) ∧ h' = (σ.h.upd b none).upd b' (some (.row (cs.take (k * S) ++ xs.flatten ++ rest))) ∧ k + xs.length ≤ cap' ∧ (cs.take (k * S) ++ xs.flatten ++ rest).length = cap' * S ∧
      (rest = cs.drop ((k + xs.length) * S) ∨ ∃ r, rest = azeros zs r)) := by
  intro g I a w hs
  obtain ⟨z, z1, z2, z3, z4⟩ := run_zero hz I
  obtain ⟨i, hi, hib⟩ := Option.map_eq_some_iff.1 hb
  obtain ⟨i2, hi2, his⟩ := he.i
  obtain rfl : i = i2 := by rw [hi] at hi2; injection hi2
  obtain ⟨iz, zz, hz1, hz2, hz3, hz4⟩ := hz.z
  obtain rfl : i = iz := by rw [hi] at hz1; injection hz1
  have hzz : zz = z := by
    have := z1 w
    simp [zeroValue, typeInfo, hi, hz2] at this
    exact this
  subst hzz
  obtain ⟨news, hsrc, hxl, hxc, hxv⟩ := hsrcA g I a w hs
  have hnl : news.length = xs.length * S := hsrc.newsLen
  have hxfl := flat_length hxl
  -- the row as it is
  have hrowf : σ.h b = none ∨ σ.h b = some (.row cs) := by
    rcases hse with ⟨-, h, -⟩ | ⟨_, _, -, -, -, -, -, h⟩
    · exact .inr h
    · exact .inl h
  have hlock : ∀ ob, σ.h b = some ob → ob.locked = false := by
    intro ob eb
    rcases hrowf with h | h
    · rw [h] at eb; cases eb
    · rw [h] at eb; cases eb; rfl
  -- the growing arm
  have grow : ∀ (base : Option Addr) (olds : List Value), a.eval s = .slice base k cap → (Builtin.firstCells S k (.slice base k cap)).run P w.drew = .ok olds.toArray w.drew → olds.length = k * S → (cs.take (k * S)).length = k * S →
      (∀ a ∈ cs, AV.cell a = true) → (∀ j a, (cs.take (k * S))[j]? = some a → VR I a (olds.getD j default)) → cap < k + xs.length →
      o.wpIn (WF ρ) 0 P a w (fun a' w' => ∃ I' u v h', I.le I' ∧ a' = a.put o.dst u ∧ VR I' v u ∧ SR g I' (σ.setH h') a w' ∧ ∃ b' cap' rest, v = .ms b' 0 S (k + xs.length) cap' ∧ (σ.h b' = none ∨ b' = b) ∧ h' = (σ.h.upd b none).upd b' (some (.row (cs.take (k * S) ++ xs.flatten ++ rest))) ∧ k + xs.length ≤ cap' ∧ (cs.take (k * S) ++ xs.flatten ++ rest).length = cap' * S ∧
      (rest = cs.drop ((k + xs.length) * S) ∨ ∃ r, rest = azeros zs r)) (fun _ _ _ => False) := by
    intro base olds hbase hold hol htl hecl hev hg
    have hrun := run_append_grow_src (P := P) w t tx o.type e i zz ht hi hz2 base k cap olds (by rw [his]; exact hold) (a.eval x) xs.length news (by rw [his]; exact hsrc) hg (Int.ofNat_le.2 h63)
      (by rw [hib]; exact growslice_fits hg hlim)
    have hcapge := grownCap_ge w (k + xs.length) cap e
    generalize hcap : grownCap w (k + xs.length) cap e = cap' at hrun hcapge
    generalize harr : ((olds ++ news).toArray ++ Builtin.zeroCells zz.cells (cap' - (k + xs.length))) = arr at hrun
    have hzlen : (azeros zs (cap' - (k + xs.length))).length = (cap' - (k + xs.length)) * S := by simp [azeros, hzl]
    have hrl : (cs.take (k * S) ++ xs.flatten ++ azeros zs (cap' - (k + xs.length))).length = cap' * S := by
      rw [List.length_append, List.length_append, htl, hxfl, hzlen, ← Nat.add_mul, ← Nat.add_mul]; congr 1; omega
    have hsz : arr.size = cap' * S := by
      rw [← harr, Array.size_append, List.size_toArray, List.length_append, size_zeroCells, hol, hnl, z2, hzl, ← Nat.add_mul, ← Nat.add_mul]; congr 1; omega
    have s1 := (hs.delObj b hlock).drew.alloc (.cells arr e)
    have hnew : (w.drew.alloc (.cells arr e)).heap[w.heap.size]? = some (.cells arr e (0, 0)) := heap_alloc_new w.drew _
    have hbn : (σ.setH (σ.h.upd b none)).h w.heap.size = none := by
      simp only [AS.setH, Heap.upd]; split
      · rfl
      · exact h_new hs
    have s2 := s1.setObj w.heap.size (.row (cs.take (k * S) ++ xs.flatten ++ azeros zs (cap' - (k + xs.length)))) hs.sz ⟨arr, e, hnew, by rw [hrl, hsz]; exact Nat.le_refl _, fun y hy => ?_, fun j y hy => ?_, I_new hs⟩ (fun ob eb => by rw [hbn] at eb; cases eb)
    · refine wpIn_of_run' (w' := w.drew.alloc (.cells arr e)) (u := .slice (some ⟨w.heap.size, 0, none⟩) (k + xs.length) cap') (by rw [ho]; simp) (by rw [exec_append ho, hbase, hrun]; rfl)
        ⟨I, _, _, _, .refl _, rfl, .ms w.heap.size 0 S (k + xs.length) cap', s2, w.heap.size, cap', azeros zs (cap' - (k + xs.length)), rfl, .inl (h_new hs), rfl, hcapge, hrl, .inr ⟨_, rfl⟩⟩
    · rw [List.mem_append, List.mem_append] at hy
      rcases hy with (hy | hy) | hy
      · exact hecl y (List.mem_of_mem_take hy)
      · obtain ⟨x', hx', hy'⟩ := List.mem_flatten.1 hy
        exact hxc x' hx' y hy'
      · exact azeros_cell z3 _ y hy
    · rw [Array.getD_eq_getD_getElem?, ← harr]
      by_cases c1 : j < k * S
      · rw [List.append_assoc, List.getElem?_append_left (by omega)] at hy
        rw [Array.getElem?_append_left (by rw [List.size_toArray, List.length_append]; omega), List.getElem?_toArray, List.getElem?_append_left (by omega), ← List.getD_eq_getElem?_getD]
        exact hev j y hy
      · by_cases c2 : j < k * S + xs.length * S
        · rw [List.getElem?_append_left (by rw [List.length_append]; omega), List.getElem?_append_right (by omega), htl] at hy
          rw [Array.getElem?_append_left (by rw [List.size_toArray, List.length_append]; omega), List.getElem?_toArray, List.getElem?_append_right (by omega), hol, ← List.getD_eq_getElem?_getD]
          exact hxv _ y hy
        · rw [List.getElem?_append_right (by rw [List.length_append]; omega), List.length_append, htl, hxfl] at hy
          rw [Array.getElem?_append_right (by rw [List.size_toArray, List.length_append]; omega), List.size_toArray, List.length_append, hol, hnl]
          obtain ⟨v, hv1, hv2⟩ := zero_get (I := I) (by rw [z2]) z4 _ _ y hy
          rw [hv1]; exact hv2
  rcases hse with ⟨hse, hrow, hcl, hkc⟩ | ⟨S0, own0, hown, hse, rfl, rfl, rfl, hbn⟩
  · have hv := hs.ev hse
    obtain ⟨hbase, arr, et, hw, hasz, hcell, hvr, hfree⟩ := hs.wr.obj b _ hrow
    generalize hev : a.eval s = sv at hv
    cases hv with
    | ms =>
      have hks : k * S ≤ cap * S := Nat.mul_le_mul_right _ hkc
      have htl : (cs.take (k * S)).length = k * S := by rw [List.length_take]; omega
      by_cases hroom : k + xs.length ≤ cap
      · have hqs : (k + xs.length) * S ≤ cap * S := Nat.mul_le_mul_right _ hroom
        have hfit : k * S + news.length ≤ arr.size := by rw [hnl, ← Nat.add_mul]; omega
        have hrun := run_append_room_row (P := P) w t tx o.type e i ht hi b k cap arr et hw (a.eval x) xs.length news (by rw [his]; exact hsrc) hroom (by rw [his]; exact hfit)
        rw [his] at hrun
        generalize harr' : (arr.toList.take (k * S) ++ news ++ arr.toList.drop (k * S + news.length)).toArray = arr' at hrun
        have hsz' : arr'.size = arr.size := by rw [← harr']; simp; omega
        have hw' : (w.setRow b arr').heap[b]? = some (.cells arr' et (0, 0)) := setRow_heap w b arr arr' et (0, 0) hw
        have s1 := (hs.delObj b hlock).setRow b hw arr' hbase (by simp [AS.setH]) (fun o' v h => by rw [hfree] at h; cases h)
        have hdl : (cs.drop ((k + xs.length) * S)).length = cap * S - (k + xs.length) * S := by rw [List.length_drop]; omega
        have hrl : (cs.take (k * S) ++ xs.flatten ++ cs.drop ((k + xs.length) * S)).length = cap * S := by
          rw [List.length_append, List.length_append, htl, hxfl, hdl, ← Nat.add_mul]; omega
        have s2 := s1.setObj b (.row (cs.take (k * S) ++ xs.flatten ++ cs.drop ((k + xs.length) * S))) hbase ⟨arr', et, hw', by rw [hrl, hsz']; omega, fun y hy => ?_, fun j y hy => ?_, hfree⟩ (fun ob eb => by simp [AS.setH] at eb)
        · refine wpIn_of_run' (w' := w.setRow b arr') (u := .slice (some ⟨b, 0, none⟩) (k + xs.length) cap) (by rw [ho]; simp) (by rw [exec_append ho, hev, hrun]; rfl)
            ⟨I, _, _, _, .refl _, rfl, .ms b 0 S (k + xs.length) cap, s2, b, cap, cs.drop ((k + xs.length) * S), rfl, .inr rfl, rfl, hroom, hrl, .inl rfl⟩
        · rw [List.mem_append, List.mem_append] at hy
          rcases hy with (hy | hy) | hy
          · exact hcell y (List.mem_of_mem_take hy)
          · obtain ⟨x', hx', hy'⟩ := List.mem_flatten.1 hy
            exact hxc x' hx' y hy'
          · exact hcell y (List.mem_of_mem_drop hy)
        · rw [Array.getD_eq_getD_getElem?, ← harr', List.getElem?_toArray]
          have e2 : (arr.toList.take (k * S)).length = k * S := by simp; omega
          by_cases c1 : j < k * S
          · rw [List.append_assoc, List.getElem?_append_left (by omega), List.getElem?_take, if_pos c1] at hy
            rw [List.append_assoc, List.getElem?_append_left (by omega), List.getElem?_take, if_pos c1, Array.getElem?_toList, ← Array.getD_eq_getD_getElem?]
            exact hvr j y hy
          · by_cases c2 : j < k * S + xs.length * S
            · rw [List.getElem?_append_left (by rw [List.length_append]; omega), List.getElem?_append_right (by omega), htl] at hy
              rw [List.getElem?_append_left (by rw [List.length_append]; omega), List.getElem?_append_right (by omega), e2, ← List.getD_eq_getElem?_getD]
              exact hxv _ y hy
            · rw [List.getElem?_append_right (by rw [List.length_append]; omega), List.length_append, htl, hxfl, List.getElem?_drop] at hy
              rw [List.getElem?_append_right (by rw [List.length_append]; omega), List.length_append, e2, hnl, List.getElem?_drop, Array.getElem?_toList, ← Array.getD_eq_getD_getElem?]
              have e3 : (k + xs.length) * S + (j - (k * S + xs.length * S)) = j := by rw [Nat.add_mul]; omega
              have e4 : k * S + xs.length * S + (j - (k * S + xs.length * S)) = j := by omega
              rw [e3] at hy; rw [e4]
              exact hvr j y hy
      · have hold : ∀ j, j < k * S → (arr.toList.take (k * S))[j]? = arr[j]? := fun j hj => by rw [List.getElem?_take, if_pos hj, Array.getElem?_toList]
        refine grow (some ⟨b, 0, none⟩) (arr.toList.take (k * S)) hev ?_ (by simp; omega) htl hcell (fun j y hy => ?_) (by omega)
        · refine run_firstCells_some w.drew S k ⟨b, 0, none⟩ k cap _ (by simp; omega) (fun j u hj => ?_)
          have hlt : j < k * S := by have := (List.getElem?_eq_some_iff.1 hj).1; simp at this; omega
          rw [hold j hlt] at hj
          rw [add_plain ⟨b, 0, none⟩ rfl]
          show w.drew.cell? ⟨b, 0 + j, none⟩ = some u
          rw [Nat.zero_add]
          have : w.cell? ⟨b, j, none⟩ = some u := by simpa [World.cell?, hw] using hj
          exact this
        · have hlt : j < k * S := by have := (List.getElem?_eq_some_iff.1 hy).1; rw [htl] at this; exact this
          rw [List.getElem?_take, if_pos hlt] at hy
          rw [List.getD_eq_getElem?_getD, hold j hlt, ← Array.getD_eq_getD_getElem?]
          exact hvr j y hy
  · have hv := hs.ev hse
    generalize hev : a.eval s = sv at hv
    cases hv with
    | slnil => exact grow none [] hev (by simp [Builtin.firstCells]) (by simp) (by simp) (by simp) (by simp) (by omega)
    | sl _ _ _ ad cap' u ho' _ _ _ _ =>
      rcases hown with rfl | rfl
      · exact ho'.2.2.elim
      · have hc0 : cap' = 0 := ho'.2.2
        subst hc0
        exact grow (some ad) [] hev (run_firstCells_some w.drew S 0 ad 0 0 [] (by simp) (by simp)) (by simp) (by simp) (by simp) (by simp) (by omega)
theorem src_of_ms {g : G} {I : Imm} {a : Act} {w : World} {S : Nat} {tx e' : TypeId} {x : Operand} {b off cap : Nat} {cs : List AV} {xs : List (List AV)} (hs : SR g I σ a w) (htx : P.underlying tx = some (.slice e')) (hx : ev σ.tm x = some (.ms b off S xs.length cap)) (hb : σ.h b = some (.row cs))
    (hxl : ∀ e ∈ xs, e.length = S) (hcs : (cs.drop off).take (xs.length * S) = xs.flatten) : ∃ news, Src P S tx (a.eval x) xs.length news w ∧ (∀ e ∈ xs, e.length = S) ∧ (∀ e ∈ xs, ∀ a ∈ e, AV.cell a = true) ∧ ∀ k v, xs.flatten[k]? = some v → VR I v (news.getD k default) := by
  have hv := hs.ev hx
  obtain ⟨hbase, arr, et, hw, hasz, hcell, hvr, hfree⟩ := hs.wr.obj b _ hb
  generalize hev : a.eval x = sv at hv
  have hfl := flat_length hxl
  have hlen : (cs.drop off).length ≥ xs.length * S := by rw [← hfl, ← hcs, List.length_take]; omega
  have hget : ∀ k y, xs.flatten[k]? = some y → k < xs.length * S ∧ cs[off + k]? = some y := by
    intro k y h
    have hk : k < xs.length * S := by rw [← hfl]; exact (List.getElem?_eq_some_iff.1 h).1
    rw [← hcs, List.getElem?_take, if_pos hk, List.getElem?_drop] at h
    exact ⟨hk, h⟩
  have hcl : ∀ e ∈ xs, ∀ a ∈ e, AV.cell a = true := by
    intro e he y hy
    have : y ∈ xs.flatten := List.mem_flatten.2 ⟨e, he, hy⟩
    obtain ⟨k, hk⟩ := List.mem_iff_getElem?.1 this
    exact hcell y (List.mem_of_getElem? (hget k y hk).2)
  cases hv with
  | ms =>
    have hdl : cs.length ≥ off + xs.length * S ∨ xs.length * S = 0 := by rw [List.length_drop] at hlen; omega
    have hnl : ((arr.toList.drop off).take (xs.length * S)).length = xs.length * S := by
      have hal : arr.toList.length = arr.size := Array.length_toList
      have hdo : (cs.drop off).length = cs.length - off := List.length_drop
      rw [List.length_take, List.length_drop, hal]; omega
    have hng : ∀ k, k < xs.length * S → ((arr.toList.drop off).take (xs.length * S))[k]? = arr[off + k]? := fun k hk => by
      rw [List.getElem?_take, if_pos hk, List.getElem?_drop, Array.getElem?_toList]
    refine ⟨(arr.toList.drop off).take (xs.length * S), Src.ofSlice (w := w) htx ⟨b, off, none⟩ _ cap _ hnl (fun j u hj => ?_) (fun u hu => ?_), hxl, hcl, fun k y hk => ?_⟩
    · have hlt : j < xs.length * S := by rw [← hnl]; exact (List.getElem?_eq_some_iff.1 hj).1
      rw [hng j hlt] at hj
      rw [add_plain ⟨b, off, none⟩ rfl]
      simpa [World.cell?, hw] using hj
    · obtain ⟨j, hj⟩ := List.mem_iff_getElem?.1 hu
      have hlt : j < xs.length * S := by rw [← hnl]; exact (List.getElem?_eq_some_iff.1 hj).1
      have hlt' : j < xs.flatten.length := by rw [hfl]; exact hlt
      have h1 := hget j _ (List.getElem?_eq_getElem hlt')
      have h2 := hvr (off + j) _ h1.2
      rw [hng j hlt] at hj
      rw [Array.getD_eq_getD_getElem?, hj] at h2
      exact h2.oneCell (hcell _ (List.mem_of_getElem? h1.2))
    · have h1 := hget k y hk
      have h2 := hvr (off + k) _ h1.2
      rw [List.getD_eq_getElem?_getD, hng k h1.1, ← Array.getD_eq_getD_getElem?]
      exact h2
theorem MO_buildSlice {t e : TypeId} {n S : Nat} {d : TypeDesc} {parts : Array (Nat × Operand)} {zs : List AV} {vs : List (Nat × AV)} {rs : List AV} (ho : o.op = .buildSlice t n parts) (ht : P.underlying t = some (.slice e)) (he : TyF P e d S) (hz : ZeroF P e zs)
    (hzl : zs.length = S) (hv : aparts σ.tm parts.toList = some vs) (hr : afill (fun i => some (i * S, S)) (azeros zs n) vs = some rs) (hlim : n * S ≤ 16777216) (hrl : rs.length = n * S) (hpos : 0 < n * S) : MO P ρ o σ (fun u h' => ∃ b, σ.h b = none ∧ u = .ms b 0 S n n ∧ h' = σ.h.upd b (some (.row rs))) := by
  intro g I a w hs
  obtain ⟨z, z1, z2, z3, z4⟩ := run_zero hz I
  obtain ⟨p1, p2⟩ := aparts_vr hs _ _ hv
  have hzc := zero_cells (I := I) (by rw [z2]) z4 n
  obtain ⟨out, o1, o2, o3, o4⟩ := fill_run (I := I) (place := fun i => some (i * S, S)) vs _ (azeros zs n) ((Array.range (n * S)).map (z.cells[· % z.cells.size]!)) rs hr p1 p2 (by simp [azeros, hzl]) (azeros_cell z3 n) (by rw [← hzl]; exact hzc)
  have e' : (parts.map fun (x : Nat × Operand) => (x.1, a.eval x.2)).toList = parts.toList.map fun p => (p.1, a.eval p.2) := by simp
  refine wpIn_of_run' (w' := w.alloc (.cells out e)) (u := .slice (some ⟨w.heap.size, 0, none⟩) n n) (by rw [ho]; simp) ?_ ⟨I, _, .ms w.heap.size 0 S n n, _, .refl _, rfl, .ms _ _ _ _ _, ?_, w.heap.size, h_new hs, rfl, rfl⟩
  · simp only [execOp, ho, Instr.buildSlice, Sem.run_bind, run_underlying ht, Result.andThen_ok, run_sizeOf' he]
    rw [if_neg (by omega : ¬ n * S > 2 ^ 24), if_neg (by omega : ¬ n * S = 0)]
    simp only [Sem.run_bind, z1, Result.andThen_ok, e', Sem.run_pure, o1]
    rfl
  · exact (hs.alloc _).setObj _ _ hs.sz ⟨_, e, heap_alloc_new _ _, by rw [o2]; exact Nat.le_refl _, o3, o4, I_new hs⟩ (fun o e => by rw [h_new hs] at e; cases e)
theorem PO_callH {f : Operand} {xs : Array Operand} {ts : Array TypeId} {fv : AV} {vs : List AV} {v : AV} (ho : o.op = .call { callee := .value f, args := xs, argTypes := ts }) (hf : ev σ.tm f = some fv) (hx : oargs σ.tm xs.toList = some vs)
    (h : AFn P fv vs σ.h (fun a h' => a = v ∧ σ.h.le h')) : PO P ρ o σ v := by
  intro g I a w hs
  refine wpIn_oper_mono (MO_call (ρ := ρ) ho hf hx h g I a w hs) ?_ fun _ _ _ h => h
  rintro a' w' ⟨I', u, v', h', k1, k2, k3, k4, rfl, k5⟩
  refine ⟨I', u, k1, k2, k3, ?_⟩
  exact ⟨k4.le, k4.below, k4.base, ⟨k4.wr.cell, k4.wr.map, fun b o e => k4.wr.obj b o (k5 b o e), k4.wr.capLt⟩, hs.size, k4.slot, hs.marks⟩
end
/-! Rows of truths. -/
def bools (bs : List Bool) : List AV := bs.map fun b => .lit (.bool b)
theorem bools_len (bs : List Bool) : (bools bs).length = bs.length := by simp [bools]
theorem bools_get {bs : List Bool} {k : Nat} (h : k < bs.length) : (bools bs)[k]? = some (.lit (.bool (bs.getD k false))) := by
  simp [bools, List.getD_eq_getElem?_getD, List.getElem?_eq_getElem h]
theorem bools_set {bs : List Bool} {k : Nat} {v : Bool} (h : k < bs.length) : setCells (bools bs) k [.lit (.bool v)] = bools (bs.set k v) := by
  simp only [setCells, bools, List.length_singleton, ← List.map_take, ← List.map_drop]
  rw [List.set_eq_take_append_cons_drop, if_pos h]
  simp
section
variable {P : Program} {ρ : Option Nat} {Q : Exit → AS → Prop} {σ : AS} {o : Oper} {ops : Array Oper} {l : List Oper} {n d : Nat} {tm : List (Nat × AV)} {h h0 : Heap} {ms : List Nat}
theorem PO_ldb {x : Operand} {t : TypeId} {b j : Nat} {bs : List Bool} (ho : o.op = .load t x) (ht : TyF P t .bool 1) (hx : ev σ.tm x = some (.ptr b j)) (hb : σ.h b = some (.row (bools bs))) (hj : j < bs.length) : PO P ρ o σ (.lit (.bool (bs.getD j false))) :=
  PO_load_row ho ht hx hb (by
    have e : (bools bs).drop j = .lit (.bool (bs.getD j false)) :: (bools bs).drop (j + 1) := by
      have hj' : j < (bools bs).length := by rw [bools_len]; exact hj
      rw [List.drop_eq_getElem_cons hj']
      have := bools_get hj
      rw [List.getElem?_eq_getElem hj'] at this
      injection this with this
      rw [this]
    rw [e]; rfl)
theorem MO_stb {x y : Operand} {t : TypeId} {b j : Nat} {bs : List Bool} {v : Bool} (ho : o.op = .store t x y) (ht : TyF P t .bool 1) (hx : ev σ.tm x = some (.ptr b j)) (hy : ev σ.tm y = some (.lit (.bool v))) (hb : σ.h b = some (.row (bools bs))) (hj : j < bs.length) :
    MO P ρ o σ (fun u h' => u = .junk ∧ h' = σ.h.upd b (some (.row (bools (bs.set j v))))) := by
  have := MO_store (ρ := ρ) ho ht hx hy hb rfl rfl (by rw [bools_len]; omega)
  rwa [show acells (.lit (.bool v)) = [.lit (.bool v)] from rfl, bools_set hj] at this
theorem MO_stn {x y : Operand} {t : TypeId} {b j : Nat} {ns : List Int} {v : Int} (ho : o.op = .store t x y) (ht : TyF P t (.int .i64) 1) (hx : ev σ.tm x = some (.ptr b j)) (hy : ev σ.tm y = some (.lit (.int .i64 v))) (hb : σ.h b = some (.row (ints ns))) (hj : j < ns.length) :
    MO P ρ o σ (fun u h' => u = .junk ∧ h' = σ.h.upd b (some (.row (ints (ns.set j v))))) := by
  have := MO_store (ρ := ρ) ho ht hx hy hb rfl rfl (by rw [ints_len]; omega)
  rwa [show acells (.lit (.int .i64 v)) = [.lit (.int .i64 v)] from rfl, ints_set hj] at this
theorem equalIn_sl_nil (d : Nat) {t e : TypeId} (ht : P.underlying t = some (.slice e)) (ad : Addr) (len cap : Nat) (w : World) : (Op.equalIn (d + 1) t (.slice (some ad) len cap) (.slice none 0 0)).run P w = .ok false w := by
  simp [Op.equalIn, run_underlying ht]
theorem PO_msNil {x : Operand} {t t' e : TypeId} {b off S len cap : Nat} (ho : o.op = .binOp .eql t x (.const (.slice none 0 0)) t') (ht : P.underlying t = some (.slice e)) (hx : ev σ.tm x = some (.ms b off S len cap)) : PO P ρ o σ (.lit (.bool false)) := by
  refine PO_of (by rw [ho]; simp) fun g I a w hs => ?_
  have hp := hs.ev hx
  generalize hu : a.eval x = p at hp
  cases hp with
  | ms =>
    refine ⟨_, ?_, .lit (.bool _) rfl⟩
    have h2 : a.eval (.const (.slice none 0 0)) = .slice none 0 0 := rfl
    simp only [execOp, ho, hu, h2, Sem.run_bind, eqGuard_other (P := P) .eql t x (.const (.slice none 0 0)) (.slice (some ⟨b, off, none⟩) len cap) (.slice none 0 0) trivial w, Result.andThen_ok]
    simp only [binOp, Op.equal, Op.maxDepth, Sem.run_bind, equalIn_sl_nil 9999 ht, Result.andThen_ok, Sem.run_pure, Bool.not_false]
def PartI (h : Heap) (b off : Nat) (os : List Int) : Prop := ∃ cs, h b = some (.row cs) ∧ (cs.drop off).take os.length = ints os
theorem PartI.get {b off : Nat} {os : List Int} (hp : PartI h b off os) {i : Nat} {x : Int} (hi : os[i]? = some x) : ∃ cs, h b = some (.row cs) ∧ cs[off + i]? = some (.lit (.int .i64 x)) := by
  obtain ⟨cs, h1, h2⟩ := hp
  refine ⟨cs, h1, ?_⟩
  have hl : i < os.length := (List.getElem?_eq_some_iff.1 hi).1
  have h3 : (ints os)[i]? = some (.lit (.int .i64 x)) := by rw [ints, List.getElem?_map, hi]; rfl
  rw [← h2, List.getElem?_take, if_pos hl, List.getElem?_drop] at h3
  exact h3
theorem PartI.le {h' : Heap} {b off : Nat} {os : List Int} (hp : PartI h b off os) (hh : h' b = h b) : PartI h' b off os := by
  obtain ⟨cs, h1, h2⟩ := hp; exact ⟨cs, hh.trans h1, h2⟩
theorem PartI.part {b off : Nat} {os : List Int} (hp : PartI h b off os) (k m : Nat) (hk : k + m ≤ os.length) : PartI h b (off + k) ((os.drop k).take m) := by
  obtain ⟨cs, h1, h2⟩ := hp
  refine ⟨cs, h1, ?_⟩
  have e : ((os.drop k).take m).length = m := by rw [List.length_take, List.length_drop]; omega
  rw [e]
  have h3 : ints ((os.drop k).take m) = ((ints os).drop k).take m := by simp only [ints, List.map_take, List.map_drop]
  rw [h3, ← h2, List.drop_take, List.take_take, List.drop_drop]
  congr 1
  omega
theorem PO_ixo {x ix : Operand} {t e : TypeId} {b off len cap : Nat} {k : IntKind} {i : Nat} {dd : TypeDesc} (ho : o.op = .indexAddr t x ix) (ht : P.underlying t = some (.slice e)) (he : TyF P e dd 1)
    (hx : ev σ.tm x = some (.ms b off 1 len cap)) (hi : ev σ.tm ix = some (.lit (.int k ((i : Nat) : Int)))) (h1 : i < len) : PO P ρ o σ (.ptr b (off + i)) := by
  have := PO_indexAddr_ms (ρ := ρ) ho ht he hx hi (by omega) (by omega)
  rwa [Nat.mul_one, Int.toNat_natCast] at this
theorem PO_ldo {x : Operand} {t : TypeId} {b off i : Nat} {os : List Int} {v : Int} (ho : o.op = .load t x) (ht : TyF P t (.int .i64) 1) (hx : ev σ.tm x = some (.ptr b (off + i))) (hp : PartI σ.h b off os) (hi : os[i]? = some v) : PO P ρ o σ (.lit (.int .i64 v)) := by
  obtain ⟨cs, h1, h2⟩ := hp.get hi
  refine PO_load_row ho ht hx h1 ?_
  obtain ⟨hj, e⟩ := List.getElem?_eq_some_iff.1 h2
  rw [List.drop_eq_getElem_cons hj, e]; rfl
theorem AFn_q {f : Nat} {fn : Func} {c : Code} {args : List AV} {h : Heap} {R : AV → Heap → Prop} (hf : P.funcs[f]? = some fn) (hb : fn.body = some c) (hname : (fn.name == "runtime.NumGoroutine") = false) (hn : fn.ntmps = n) (ht : argTm 0 ([] ++ args ++ []) = tm) (hle : Nat.ble ([] ++ args ++ []).length n = true)
    (hw : AW P none c (retQ fn h R) ⟨n, tm, h, [], h⟩) : AFn P (.fn (.func f) [] []) args h R := by
  refine AFn_of hf hb hname (by rw [hn]; exact Nat.le_of_ble_eq_true hle) ?_
  rw [hn, ht]; exact hw
theorem MO_clone {s x : Operand} {t tx e e' : TypeId} {bytes b off cap : Nat} {dd : TypeDesc} {os : List Int} (ho : o.op = .call { callee := .builtin .append, args := #[s, x], argTypes := #[t, tx] })
    (ht : P.underlying t = some (.slice e)) (htx : P.underlying tx = some (.slice e')) (he : TyF P e dd 1) (hz : ZeroF P e [.lit (.int .i64 0)]) (hb : (P.info? e).map (·.bytes) = some bytes)
    (hse : ev σ.tm s = some (.sl .full 1 [])) (hxe : ev σ.tm x = some (.ms b off 1 os.length cap)) (hp : PartI σ.h b off os) (hpos : 0 < os.length) (hlim : os.length * bytes ≤ 140737488355328) (h63 : os.length ≤ 9223372036854775807) :
    MO P ρ o σ (fun u h' => ∃ b' ns, σ.h b' = none ∧ u = .ms b' 0 1 os.length ns.length ∧ ns.take os.length = os ∧ os.length ≤ ns.length ∧ h' = σ.h.upd b' (some (.row (ints ns)))) := by
  intro g I a w hs
  obtain ⟨cs, h1, h2⟩ := hp
  have hxl : (os.map fun v => [AV.lit (.int .i64 v)]).length = os.length := List.length_map ..
  have hfl : (os.map fun v => [AV.lit (.int .i64 v)]).flatten = ints os := by
    clear hxe hpos hlim h63 h2 hxl
    induction os with
    | nil => rfl
    | cons x os ih => rw [List.map_cons, List.flatten_cons, ih]; rfl
  -- a block that is not there
  have hex : σ.h w.heap.size = none := h_new hs
  refine wpIn_oper_mono (MO_append_src (ρ := ρ) (σ := σ) (b := w.heap.size) (k := 0) (cap := 0) (cs := []) (xs := os.map fun v => [AV.lit (.int .i64 v)]) ho ht htx he hz rfl hb (.inr ⟨1, .full, .inr rfl, hse, rfl, rfl, rfl, hex⟩) (fun g I a w hs => src_of_ms hs htx (by rw [hxl]; exact hxe) h1 (by simp) (by rw [hxl, Nat.mul_one, hfl]; exact h2)) (by rw [hxl]; exact hpos) (by rw [hxl, Nat.zero_add]; exact hlim) (by rw [hxl, Nat.zero_add]; exact h63) g I a w hs) ?_ fun _ _ _ h => h
  rintro a' w' ⟨I', u, v, h', k1, k2, k3, k4, b', cap', rest, rfl, hb', rfl, hc, hlen, hrest⟩
  rw [hxl, hfl, Nat.zero_add] at *
  simp only [Nat.zero_mul, List.take_nil, List.nil_append] at *
  have hb'' : σ.h b' = none := by rcases hb' with h | rfl; exact h; exact hex
  have hri : ∃ r, rest = ints (List.replicate r 0) := by
    rcases hrest with rfl | ⟨r, rfl⟩
    · exact ⟨0, by simp [ints]⟩
    · exact ⟨r, by simp [azeros, ints, List.flatten_replicate_singleton]⟩
  obtain ⟨r, rfl⟩ := hri
  refine ⟨I', u, _, _, k1, k2, k3, k4, b', os ++ List.replicate r 0, hb'', ?_, List.take_left' rfl, by simp, ?_⟩
  · have : (os ++ List.replicate r 0).length = cap' := by
      have : (ints os ++ ints (List.replicate r 0)).length = cap' := by rw [hlen, Nat.mul_one]
      rw [List.length_append, ints_len, ints_len] at this
      rw [List.length_append]; exact this
    rw [this]
  · have : σ.h.upd w.heap.size none = σ.h := by
      funext q; simp only [Heap.upd]; split
      · rename_i e; rw [e, hex]
      · rfl
    rw [this]
    simp only [ints, List.map_append]
theorem MO_heap {R R' : AV → Heap → Prop} (hp : MO P ρ o σ R) (hr : ∀ v h', R v h' → R' v h') : MO P ρ o σ R' := by
  intro g I a w hs
  refine wpIn_oper_mono (hp g I a w hs) ?_ fun _ _ _ h => h
  rintro a' w' ⟨I', u, v, h', k1, k2, k3, k4, k5⟩
  exact ⟨I', u, v, h', k1, k2, k3, k4, hr v h' k5⟩
end
end Go.AM
end
section
set_option linter.unusedVariables false
set_option linter.unusedSimpArgs false
namespace Go.AM
open Go.RowKit Go.AM.D
def Sep (h0 hp : Heap) (L : List (Nat × AObj)) : Prop := (L.map Prod.fst).Nodup ∧ (∀ p ∈ L, hp p.1 = some p.2 ∧ h0 p.1 = none) ∧ h0.le hp
theorem Sep.start (h : Heap) : Sep h h [] := ⟨by simp, (fun p hp => by cases hp), .refl h⟩
section
variable {h0 hp : Heap} {L L' L1 L2 : List (Nat × AObj)} {b b' i : Nat} {o o' : AObj}
theorem Sep.get (hs : Sep h0 hp L) (i : Nat) (hi : L[i]? = some (b, o)) : hp b = some o := (hs.2.1 _ (List.mem_of_getElem? hi)).1
theorem Sep.fresh (hs : Sep h0 hp L) (i : Nat) (hi : L[i]? = some (b, o)) : h0 b = none := (hs.2.1 _ (List.mem_of_getElem? hi)).2
theorem Sep.perm (hs : Sep h0 hp L) (hp' : L.Perm L') : Sep h0 hp L' := ⟨(hp'.map Prod.fst).nodup_iff.1 hs.1, fun p h => hs.2.1 p (hp'.mem_iff.2 h), hs.2.2⟩
theorem Sep.ne (hs : Sep h0 hp L) {i j : Nat} {x y : Nat × AObj} (hi : L[i]? = some x) (hj : L[j]? = some y) (hij : i ≠ j) : x.1 ≠ y.1 := by
  intro e
  have h1 : (L.map Prod.fst)[i]? = some x.1 := by rw [List.getElem?_map, hi]; rfl
  have h2 : (L.map Prod.fst)[j]? = some y.1 := by rw [List.getElem?_map, hj]; rfl
  have hl : i < (L.map Prod.fst).length := (List.getElem?_eq_some_iff.1 h1).1
  exact hij ((List.getElem?_inj hl hs.1).1 (by rw [h1, h2, e]))
theorem Sep.re (hs : Sep h0 hp L) (i : Nat) (hi : L[i]? = some (b, o)) (hb : hp b' = none ∨ b' = b) : Sep h0 ((hp.upd b none).upd b' (some o')) (L.set i (b', o')) := by
  have hil : i < L.length := (List.getElem?_eq_some_iff.1 hi).1
  have hb0 := hs.fresh i hi
  have hb0' : h0 b' = none := by
    rcases hb with hb | rfl
    · exact Heap.none_of hs.2.2 hb
    · exact hb0
  have hget : ∀ (j : Nat) (p : Nat × AObj), (L.set i (b', o'))[j]? = some p → (j = i ∧ p = (b', o')) ∨ (j ≠ i ∧ L[j]? = some p) := by
    intro j p hj
    by_cases e : i = j
    · subst e; rw [List.getElem?_set_self hil] at hj; injection hj with hj; exact .inl ⟨rfl, hj.symm⟩
    · rw [List.getElem?_set_ne e] at hj; exact .inr ⟨fun h => e h.symm, hj⟩
  have hoth : ∀ (j : Nat) (p : Nat × AObj), j ≠ i → L[j]? = some p → p.1 ≠ b' ∧ p.1 ≠ b := by
    intro j p hji hj
    have h1 := hs.ne hj hi hji
    refine ⟨fun e => ?_, h1⟩
    rcases hb with hb | rfl
    · have := (hs.2.1 p (List.mem_of_getElem? hj)).1
      rw [e, hb] at this; cases this
    · exact h1 e
  refine ⟨?_, fun p hp' => ?_, ?_⟩
  · rw [List.nodup_iff_pairwise_ne, List.pairwise_iff_getElem]
    intro a c ha hc hac e
    have e1 : (L.set i (b', o'))[a]? = some ((L.set i (b', o'))[a]'(by simpa using ha)) := List.getElem?_eq_getElem _
    have e2 : (L.set i (b', o'))[c]? = some ((L.set i (b', o'))[c]'(by simpa using hc)) := List.getElem?_eq_getElem _
    simp only [List.getElem_map] at e
    rcases hget _ _ e1 with ⟨h1, h2⟩ | ⟨h1, h2⟩ <;> rcases hget _ _ e2 with ⟨h3, h4⟩ | ⟨h3, h4⟩
    · omega
    · rw [h2] at e; exact (hoth c _ h3 h4).1 e.symm
    · rw [h4] at e; exact (hoth a _ h1 h2).1 e
    · exact hs.ne h2 h4 (by omega) e
  · obtain ⟨j, hj⟩ := List.mem_iff_getElem?.1 hp'
    rcases hget j p hj with ⟨h1, rfl⟩ | ⟨h1, h2⟩
    · exact ⟨Heap.upd_same _ _ _, hb0'⟩
    · have h3 := hoth j p h1 h2
      have h4 := hs.2.1 p (List.mem_of_getElem? h2)
      exact ⟨by rw [Heap.upd_other _ h3.1, Heap.upd_other _ h3.2]; exact h4.1, h4.2⟩
  · exact Heap.le_upd (Heap.le_upd hs.2.2 hb0 _) hb0' _
theorem Sep.set (hs : Sep h0 hp L) (i : Nat) (hi : L[i]? = some (b, o)) : Sep h0 (hp.upd b (some o')) (L.set i (b, o')) := by
  have := hs.re (o' := o') i hi (.inr rfl)
  rwa [Heap.upd_upd] at this
theorem Sep.ins (hs : Sep h0 hp (L1 ++ L2)) (hb : hp b = none) : Sep h0 (hp.upd b (some o)) (L1 ++ (b, o) :: L2) := by
  have hnb : ∀ p ∈ L1 ++ L2, p.1 ≠ b := fun p hp' e => by
    have := (hs.2.1 p hp').1
    rw [e, hb] at this; cases this
  have hb0 := Heap.none_of hs.2.2 hb
  refine Sep.perm (L := (b, o) :: (L1 ++ L2)) ⟨?_, ?_, Heap.le_upd hs.2.2 hb0 _⟩ List.perm_middle.symm
  · rw [List.map_cons, List.nodup_cons]
    refine ⟨fun hm => ?_, hs.1⟩
    obtain ⟨p, hp', e⟩ := List.mem_map.1 hm
    exact hnb p hp' e
  · intro p hp'
    rcases List.mem_cons.1 hp' with rfl | hp'
    · exact ⟨Heap.upd_same _ _ _, hb0⟩
    · have h1 := hs.2.1 p hp'
      exact ⟨by rw [Heap.upd_other _ (hnb p hp')]; exact h1.1, h1.2⟩
theorem Sep.sub (hs : Sep h0 hp L) (h : L'.Sublist L) : Sep h0 hp L' := ⟨hs.1.sublist (h.map Prod.fst), fun p hp' => hs.2.1 p (h.subset hp'), hs.2.2⟩
theorem Sep.le (hs : Sep h0 hp L) : h0.le hp := hs.2.2
end
def OpL (v : AV) (os : List Int) (LO : List (Nat × AObj)) : Prop :=
  (v = .sl .nil 1 [] ∧ os = [] ∧ LO = []) ∨ ∃ b ns, v = .ms b 0 1 os.length ns.length ∧ os.length ≤ ns.length ∧ ns.take os.length = os ∧ LO = [(b, .row (ints ns))]
structure GR where
  b : Nat
  l : List Int
  ns : List Int
def GR.ok (g : GR) : Prop := g.ns.take g.l.length = g.l ∧ g.l.length ≤ g.ns.length
def GR.cell (g : GR) : AV := .ms g.b 0 1 g.l.length g.ns.length
def GR.row (g : GR) : Nat × AObj := (g.b, .row (ints g.ns))
def GrL (v : AV) (gs : List GR) (LG : List (Nat × AObj)) : Prop :=
  (v = .sl .nil 1 [] ∧ gs = [] ∧ LG = []) ∨ ∃ b cap rest, v = .ms b 0 1 gs.length cap ∧ gs.length ≤ cap ∧ (gs.map GR.cell ++ rest).length = cap ∧ LG = (b, .row (gs.map GR.cell ++ rest)) :: gs.map GR.row
section
variable {P : Program} {ρ : Option Nat} {Q : Exit → AS → Prop} {σ : AS} {o : Oper} {ops : Array Oper} {l : List Oper} {n d : Nat} {tm : List (Nat × AV)} {h h0 : Heap} {ms : List Nat}
theorem OpL.len {v : AV} {os : List Int} {LO : List (Nat × AObj)} (hO : OpL v os LO) {x : Operand} {t e : TypeId} (ho : o.op = .call { callee := .builtin .len, args := #[x], argTypes := #[t] }) (ht : P.underlying t = some (.slice e)) (hx : ev σ.tm x = some v) : PO P ρ o σ (.lit (.int .i64 (os.length : Nat))) := by
  rcases hO with ⟨rfl, rfl, -⟩ | ⟨b, ns, rfl, -⟩
  · exact PO_len ho ht hx
  · exact PO_len_ms ho ht hx
theorem MO_appO {s x : Operand} {t tx e e' : TypeId} {bytes : Nat} {own' : Own} {vop : AV} {os : List Int} {v : Int} {LO L1 L2 : List (Nat × AObj)} (ho : o.op = .call { callee := .builtin .append, args := #[s, x], argTypes := #[t, tx] })
    (ht : P.underlying t = some (.slice e)) (htx : P.underlying tx = some (.slice e')) (he : TyF P e (.int .i64) 1) (hz : ZeroF P e [.lit (.int .i64 0)]) (hb : (P.info? e).map (·.bytes) = some bytes)
    (hse : ev σ.tm s = some vop) (hxe : ev σ.tm x = some (.sl own' 1 [[.lit (.int .i64 v)]])) (hO : OpL vop os LO) (hS : Sep h0 σ.h (L1 ++ (LO ++ L2))) (hlim : (os.length + 1) * bytes ≤ 140737488355328) (h63 : os.length + 1 ≤ 9223372036854775807) :
    MO P ρ o σ (fun u h' => ∃ LO', OpL u (os ++ [v]) LO' ∧ Sep h0 h' (L1 ++ (LO' ++ L2))) := by
  intro g I a w hs
  rcases hO with ⟨rfl, rfl, rfl⟩ | ⟨b, ns, rfl, hl, htk, rfl⟩
  · have hex : σ.h w.heap.size = none := h_new hs
    refine wpIn_oper_mono (MO_append_ms (ρ := ρ) (σ := σ) (b := w.heap.size) (k := 0) (cap := 0) (cs := []) (xs := [[.lit (.int .i64 v)]]) ho ht htx he hz rfl hb (.inr ⟨1, hse, rfl, rfl, rfl, hex⟩) hxe (by simp) (by simpa using hlim) (by simp) g I a w hs) ?_ fun _ _ _ h => h
    rintro a' w' ⟨I', u, u', h', k1, k2, k3, k4, b', cap', rest, rfl, hb', rfl, hc, hlen, hrest⟩
    have hb'' : σ.h b' = none := by rcases hb' with h | rfl; exact h; exact hex
    have hri : ∃ r, rest = ints (List.replicate r 0) := by
      rcases hrest with rfl | ⟨r, rfl⟩
      · exact ⟨0, by simp [ints]⟩
      · exact ⟨r, ints_zero r⟩
    obtain ⟨r, rfl⟩ := hri
    have hrow : ((([] : List AV).take (0 * 1) ++ [[AV.lit (.int .i64 v)]].flatten ++ ints (List.replicate r 0))) = ints (v :: List.replicate r 0) := by simp [ints]
    have hcap : cap' = (v :: List.replicate r 0).length := by
      rw [hrow, ints_len] at hlen; omega
    refine ⟨I', u, _, _, k1, k2, k3, k4, [(b', .row (ints (v :: List.replicate r 0)))], .inr ⟨b', _, ?_, by simp, by simp, rfl⟩, ?_⟩
    · rw [hcap]; simp
    · have : σ.h.upd w.heap.size none = σ.h := by
        funext q; simp only [Heap.upd]; split
        · rename_i e; rw [e, hex]
        · rfl
      rw [this, hrow]
      exact Sep.ins hS hb''
  · have hrow := hS.get L1.length (b := b) (o := .row (ints ns)) (by rw [List.getElem?_append_right (Nat.le_refl _), Nat.sub_self]; rfl)
    refine wpIn_oper_mono (MO_append_ms (ρ := ρ) (σ := σ) (b := b) (k := os.length) (cap := ns.length) (cs := ints ns) (xs := [[.lit (.int .i64 v)]]) ho ht htx he hz rfl hb (.inl ⟨hse, hrow, by rw [ints_len, Nat.mul_one], hl⟩) hxe (by simp) (by simpa using hlim) (by simpa using h63) g I a w hs) ?_ fun _ _ _ h => h
    rintro a' w' ⟨I', u, u', h', k1, k2, k3, k4, b', cap', rest, rfl, hb', rfl, hc, hlen, hrest⟩
    have hri : ∃ rs, rest = ints rs := by
      rcases hrest with rfl | ⟨r, rfl⟩
      · exact ⟨ns.drop (os.length + 1), by simp [ints]⟩
      · exact ⟨_, ints_zero r⟩
    obtain ⟨rs, rfl⟩ := hri
    have hrow' : (ints ns).take (os.length * 1) ++ [[AV.lit (.int .i64 v)]].flatten ++ ints rs = ints ((os ++ [v]) ++ rs) := by
      rw [Nat.mul_one]
      simp only [ints, ← List.map_take, htk, List.map_append]
      rfl
    have hcap : cap' = ((os ++ [v]) ++ rs).length := by
      rw [hrow', ints_len] at hlen; omega
    refine ⟨I', u, _, _, k1, k2, k3, k4, [(b', .row (ints ((os ++ [v]) ++ rs)))], .inr ⟨b', _, ?_, by simp only [List.length_append]; omega, List.take_left' rfl, rfl⟩, ?_⟩
    · rw [← hcap, List.length_append]; rfl
    · rw [hrow']
      have := hS.re (b' := b') (o' := .row (ints ((os ++ [v]) ++ rs))) L1.length (b := b) (o := .row (ints ns)) (by rw [List.getElem?_append_right (Nat.le_refl _), Nat.sub_self]; rfl) hb'
      rw [List.set_append_right _ _ (Nat.le_refl _), Nat.sub_self] at this
      exact this
theorem MO_appG {s x : Operand} {t tx e e' : TypeId} {bytes : Nat} {own' : Own} {dd : TypeDesc} {z : AV} {vo : AV} {gs : List GR} {gr : GR} {LG L1 : List (Nat × AObj)} (ho : o.op = .call { callee := .builtin .append, args := #[s, x], argTypes := #[t, tx] })
    (ht : P.underlying t = some (.slice e)) (htx : P.underlying tx = some (.slice e')) (he : TyF P e dd 1) (hz : ZeroF P e [z]) (hb : (P.info? e).map (·.bytes) = some bytes)
    (hse : ev σ.tm s = some vo) (hxe : ev σ.tm x = some (.sl own' 1 [[gr.cell]])) (hG : GrL vo gs LG) (hS : Sep h0 σ.h (L1 ++ gr.row :: LG)) (hlim : (gs.length + 1) * bytes ≤ 140737488355328) (h63 : gs.length + 1 ≤ 9223372036854775807) :
    MO P ρ o σ (fun u h' => ∃ LG', GrL u (gs ++ [gr]) LG' ∧ Sep h0 h' (L1 ++ LG')) := by
  intro g I a w hs
  rcases hG with ⟨rfl, rfl, rfl⟩ | ⟨b, cap, rest, rfl, hl, hcp, rfl⟩
  · have hex : σ.h w.heap.size = none := h_new hs
    refine wpIn_oper_mono (MO_append_ms (ρ := ρ) (σ := σ) (b := w.heap.size) (k := 0) (cap := 0) (cs := []) (xs := [[gr.cell]]) ho ht htx he hz rfl hb (.inr ⟨1, hse, rfl, rfl, rfl, hex⟩) hxe (by simp) (by simpa using hlim) (by simp) g I a w hs) ?_ fun _ _ _ h => h
    rintro a' w' ⟨I', u, u', h', k1, k2, k3, k4, b', cap', rest, rfl, hb', rfl, hc, hlen, hrest⟩
    have hb'' : σ.h b' = none := by rcases hb' with h | rfl; exact h; exact hex
    have hrow : ((([] : List AV).take (0 * 1) ++ [[gr.cell]].flatten ++ rest)) = [gr].map GR.cell ++ rest := by simp
    rw [hrow, Nat.mul_one] at hlen
    refine ⟨I', u, _, _, k1, k2, k3, k4, _, .inr ⟨b', cap', rest, rfl, by simpa using hc, hlen, rfl⟩, ?_⟩
    have : σ.h.upd w.heap.size none = σ.h := by
      funext q; simp only [Heap.upd]; split
      · rename_i e; rw [e, hex]
      · rfl
    rw [this, hrow]
    exact Sep.ins (L2 := [gr.row]) hS hb''
  · have hS' : Sep h0 σ.h (L1 ++ (b, .row (gs.map GR.cell ++ rest)) :: (gr.row :: gs.map GR.row)) := hS.perm (List.Perm.append_left _ (List.Perm.swap _ _ _))
    have hrow := hS'.get L1.length (by rw [List.getElem?_append_right (Nat.le_refl _), Nat.sub_self]; rfl)
    refine wpIn_oper_mono (MO_append_ms (ρ := ρ) (σ := σ) (b := b) (k := gs.length) (cap := cap) (cs := gs.map GR.cell ++ rest) (xs := [[gr.cell]]) ho ht htx he hz rfl hb (.inl ⟨hse, hrow, by rw [hcp, Nat.mul_one], hl⟩) hxe (by simp) (by simpa using hlim) (by simpa using h63) g I a w hs) ?_ fun _ _ _ h => h
    rintro a' w' ⟨I', u, u', h', k1, k2, k3, k4, b', cap', rest', rfl, hb', rfl, hc, hlen, hrest⟩
    have hrow' : (gs.map GR.cell ++ rest).take (gs.length * 1) ++ [[gr.cell]].flatten ++ rest' = (gs ++ [gr]).map GR.cell ++ rest' := by
      rw [Nat.mul_one, List.take_left' (by simp)]
      simp
    rw [hrow', Nat.mul_one] at hlen
    refine ⟨I', u, _, _, k1, k2, k3, k4, _, .inr ⟨b', cap', rest', by simp, by simpa using hc, hlen, rfl⟩, ?_⟩
    rw [hrow']
    have := hS'.re (b' := b') (o' := .row ((gs ++ [gr]).map GR.cell ++ rest')) L1.length (by rw [List.getElem?_append_right (Nat.le_refl _), Nat.sub_self]; rfl) hb'
    rw [List.set_append_right _ _ (Nat.le_refl _), Nat.sub_self] at this
    refine this.perm (List.Perm.append_left _ (.cons _ ?_))
    rw [List.map_append]
    exact List.perm_append_comm (l₁ := [gr.row])
end
end Go.AM
end
