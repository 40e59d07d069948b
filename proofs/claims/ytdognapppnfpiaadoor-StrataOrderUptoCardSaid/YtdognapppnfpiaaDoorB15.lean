/- A part of the proof: walks of the code and laws that they use (Br). Conditions: as each theorem names them. -/
import Derived.Test.YtdognapppnfpiaaDoorRows
import Derived.ProofKit
import Derived.OpenShut
import Derived.ReadAgain
import Derived.Deep.Slices
import Derived.Test.YtdognapppnfpiaaDoorB14
section
set_option maxRecDepth 100000
set_option linter.unusedVariables false
set_option linter.unusedSimpArgs false
namespace Go.AM
open Go.RowKit
def imm (W : World) : Imm := ⟨fun b o => W.cell? ⟨b, o, none⟩, fun _ => none, fun _ => none⟩
theorem wr_imm (W : World) : WR W.heap.size (imm W) (fun _ => none) W := ⟨fun _ _ _ h => h, fun _ _ h => (by cases h), fun _ _ h => (by cases h), fun _ _ h => (by cases h)⟩
theorem calls_of {P : Program} {f : Nat} {fn : Func} {avs : List AV} {args : Array Value} {v : Value} {W : World} (hf : P.funcs[f]? = some fn) (hb : fn.body.isSome = true) (hname : (fn.name == "runtime.NumGoroutine") = false)
    (h : PFn P (.fn (.func f) [] []) avs (.lit v)) (hv : VRs (imm W) avs args) : Calls P f args W fun e w' => e = .returned v ∧ Below W.heap.size W w' := by
  obtain ⟨d, h1, h2⟩ := h (fun _ => none) W.heap.size (imm W) W (.func (.func f) #[] #[]) args (Nat.le_refl _) (wr_imm W) (.fn _ _ _ _ _ rfl rfl (by simp) (by simp)) hv
  have hd : d = { target := .fn (.func f) #[], args := #[] ++ args } := by
    have := h1 W
    simp [Deferred.ofValue] at this
    rw [← this]; simp
  subst hd
  obtain ⟨c, hc⟩ := Option.isSome_iff_exists.1 hb
  have hname' : ¬ fn.name = "runtime.NumGoroutine" := by simpa using hname
  have hrun : (invoke (.fn (.func f) #[]) (#[] ++ args)).run P W = .ok (.enter f (#[] ++ args ++ #[])) W := by
    simp [invoke, callFunc, hf, hc, hname']
  simp only [hrun] at h2
  have e : #[] ++ args ++ #[] = args := by simp
  rw [e] at h2
  refine (h2.calls (fun _ => room_wide _)).mono fun e w' hr => ?_
  obtain ⟨u, rfl, I', a, h', k1, k2, k3, k4, k5, rfl, k6⟩ := hr
  exact ⟨by rw [VR.lit_inv k3], k4⟩
theorem vr_lits {I : Imm} {vs : List Value} (h : ∀ v ∈ vs, v.oneCell' = true) : ∀ (j : Nat) (a : AV), (vs.map AV.lit)[j]? = some a → VR I a (vs.getD j default) := by
  intro j a e
  rw [List.getElem?_map, Option.map_eq_some_iff] at e
  obtain ⟨v, hv, rfl⟩ := e
  rw [List.getD_eq_getElem?_getD, hv]
  exact .lit v (h v (List.mem_of_getElem? hv))
theorem split2 {α : Type} {cs : List α} {a b : Nat} (h : cs.length = a + b) : cs = (cs.drop 0).take a ++ (cs.drop a).take b := by
  rw [List.drop_zero, List.take_of_length_le (l := cs.drop a) (by simp; omega), List.take_append_drop]
end Go.AM
namespace Go.AM.Tryd
open Go Go.AM Go.AM.D Go.RowKit Go.Deep
open Go.Proofs.YtdognapppnfpiaaDoor (Rows.uptoBulk Rows.uptoBulkAll)
abbrev blk {H : Type} (d : DataW H) : Nat := Go.Proofs.YtdognapppnfpiaaDoor.Rows.uptoBulk d
abbrev blks {H : Type} (d : List (DataW H)) : Nat := Go.Proofs.YtdognapppnfpiaaDoor.Rows.uptoBulkAll d
theorem blks_cons {H : Type} (d : DataW H) (l : List (DataW H)) : blks (d :: l) = blk d + blks l := by simp only [Go.Proofs.YtdognapppnfpiaaDoor.Rows.uptoBulkAll]
theorem blk_one {H : Type} (d : DataW H) : 1 ≤ blk d := by
  cases d with
  | lit l => cases l <;> simp [Go.Proofs.YtdognapppnfpiaaDoor.Rows.uptoBulk]
  | _ => simp [Go.Proofs.YtdognapppnfpiaaDoor.Rows.uptoBulk]
theorem blk_part {H : Type} {d : DataW H} : ∀ {l : List (DataW H)}, d ∈ l → blk d ≤ blks l
  | x :: r, h => by
    rw [blks_cons]
    rcases List.mem_cons.1 h with rfl | h
    · omega
    · have := blk_part h; omega
theorem blk_len {H : Type} : ∀ (l : List (DataW H)), l.length ≤ blks l
  | [] => by simp
  | x :: r => by rw [blks_cons]; have := blk_one x; have := blk_len r; simp only [List.length_cons]; omega
theorem blk_agg {H : Type} (l : List (DataW H)) : blk (.agg l) = blks l + 1 := by simp only [Go.Proofs.YtdognapppnfpiaaDoor.Rows.uptoBulk]
theorem blk_slice {H : Type} (l s : List (DataW H)) : blk (.slice l s) = blks l + blks s + 1 := by simp only [Go.Proofs.YtdognapppnfpiaaDoor.Rows.uptoBulk]
theorem blk_str {H : Type} (s : ByteArray) : blk (H := H) (.lit (.string s.data.toList)) = s.size + 1 := by
  simp only [Go.Proofs.YtdognapppnfpiaaDoor.Rows.uptoBulk]
  rw [Array.length_toList]; rfl
def vTerm (t : Term) : List Value := [.int .i64 t.kind, .string t.text, .string t.extra]
def vSlot (s : Slot) : List Value := .string s.var :: vTerm s.term
def vPat (p : Pat) : List Value := vSlot p.a ++ (vSlot p.b ++ vSlot p.c)
def vLit (l : Lt) : List Value := .int .i64 l.kind :: (vPat l.pat ++ (vSlot l.a ++ vSlot l.b))
theorem eTerm_v (t : Term) : eTerm t = (vTerm t).map .lit := rfl
theorem eSlot_v (t : Slot) : eSlot t = (vSlot t).map .lit := rfl
theorem ePat_v (t : Pat) : ePat t = (vPat t).map .lit := rfl
theorem eLit_v (t : Lt) : eLit t = (vLit t).map .lit := rfl
theorem vSlot_one (s : Slot) : ∀ v ∈ vSlot s, v.oneCell' = true := by
  intro v hv; simp only [vSlot, vTerm, List.mem_cons, List.not_mem_nil, or_false] at hv
  rcases hv with rfl | rfl | rfl | rfl <;> rfl
theorem vPat_one (p : Pat) : ∀ v ∈ vPat p, v.oneCell' = true := by
  intro v hv; simp only [vPat, List.mem_append] at hv
  rcases hv with h | h | h <;> exact vSlot_one _ v h
theorem vLit_one (l : Lt) : ∀ v ∈ vLit l, v.oneCell' = true := by
  intro v hv; simp only [vLit, List.mem_cons, List.mem_append] at hv
  rcases hv with rfl | h | h | h
  · rfl
  · exact vPat_one _ v h
  · exact vSlot_one _ v h
  · exact vSlot_one _ v h
theorem vSlot_len (s : Slot) : (vSlot s).length = 4 := rfl
theorem vPat_len (s : Pat) : (vPat s).length = 12 := rfl
theorem vLit_len (s : Lt) : (vLit s).length = 21 := rfl
theorem c9 : PR.cellsOf 9 = 1 := by kernel_rfl
theorem c23 : PR.cellsOf 23 = 1 := by kernel_rfl
theorem c66 : PR.cellsOf 66 = 1 := by kernel_rfl
theorem c44 : PR.cellsOf 44 = 1 := by kernel_rfl
theorem c25 : PR.cellsOf 25 = 3 := by kernel_rfl
theorem c41 : PR.cellsOf 41 = 4 := by kernel_rfl
theorem c43 : PR.cellsOf 43 = 12 := by kernel_rfl
theorem c68 : PR.cellsOf 68 = 21 := by kernel_rfl
theorem c46 : PR.cellsOf 46 = 13 := by kernel_rfl
section
variable {H : Type} {enc : TypeId × Value → H} {W : World} {sp : Nat → Bool} {hd : Bool} {n : Nat} {cs : List Value} {x : DataW H × List MemPlace}
def bT (B : Nat) (t : Term) : Prop := t.text.size ≤ B ∧ t.extra.size ≤ B
def bS (B : Nat) (s : Slot) : Prop := s.var.size ≤ B ∧ bT B s.term
def bP (B : Nat) (p : Pat) : Prop := bS B p.a ∧ bS B p.b ∧ bS B p.c
def bL (B : Nat) (l : Lt) : Prop := bP B l.pat ∧ bS B l.a ∧ bS B l.b
theorem bT.le {B C : Nat} {t : Term} (h : bT B t) (k : B ≤ C) : bT C t := ⟨Nat.le_trans h.1 k, Nat.le_trans h.2 k⟩
theorem bS.le {B C : Nat} {t : Slot} (h : bS B t) (k : B ≤ C) : bS C t := ⟨Nat.le_trans h.1 k, h.2.le k⟩
theorem bP.le {B C : Nat} {t : Pat} (h : bP B t) (k : B ≤ C) : bP C t := ⟨h.1.le k, h.2.1.le k, h.2.2.le k⟩
theorem bL.le {B C : Nat} {t : Lt} (h : bL B t) (k : B ≤ C) : bL C t := ⟨h.1.le k, h.2.1.le k, h.2.2.le k⟩
theorem get3 {xs : List (DataW H × List MemPlace)} (h : xs.length = 3) : ∃ a b c, xs = [a, b, c] := by
  rcases xs with _ | ⟨a, _ | ⟨b, _ | ⟨c, _ | ⟨d, r⟩⟩⟩⟩ <;> simp at h
  exact ⟨a, b, c, rfl⟩
theorem get2 {xs : List (DataW H × List MemPlace)} (h : xs.length = 2) : ∃ a b, xs = [a, b] := by
  rcases xs with _ | ⟨a, _ | ⟨b, _ | ⟨c, r⟩⟩⟩ <;> simp at h
  exact ⟨a, b, rfl⟩
theorem get4 {xs : List (DataW H × List MemPlace)} (h : xs.length = 4) : ∃ a b c d, xs = [a, b, c, d] := by
  rcases xs with _ | ⟨a, _ | ⟨b, _ | ⟨c, _ | ⟨d, _ | ⟨e, r⟩⟩⟩⟩⟩ <;> simp at h
  exact ⟨a, b, c, d, rfl⟩
theorem rd_term (h : DataW.trod enc PR W 0 sp hd n 25 cs = some x) : ∃ t : Term, cs = vTerm t ∧ bT (blk x.1) t := by
  obtain ⟨xs, m, rfl, rfl, hl, hxl, hf⟩ := DataW.trod_struct Go.Proofs.Tryd.underlying25 h
  obtain ⟨y0, y1, y2, rfl⟩ := get3 hxl
  have h0 : DataW.trod enc PR W 0 sp hd m 23 ((cs.drop 0).take (PR.cellsOf 23)) = some y0 := hf 0 _ rfl
  have h1 : DataW.trod enc PR W 0 sp hd m 9 ((cs.drop 1).take (PR.cellsOf 9)) = some y1 := hf 1 _ rfl
  have h2 : DataW.trod enc PR W 0 sp hd m 9 ((cs.drop 2).take (PR.cellsOf 9)) = some y2 := hf 2 _ rfl
  rw [c25] at hl
  simp only [c23, c9, List.getElem?_cons_zero, List.getElem?_cons_succ] at h0 h1 h2
  obtain ⟨k, e0, f0, -⟩ := DataW.trod_int Go.Proofs.Tryd.underlying23 h0
  obtain ⟨s, e1, f1, -⟩ := DataW.trod_string Go.Proofs.Tryd.underlying9 h1
  obtain ⟨u, e2, f2, -⟩ := DataW.trod_string Go.Proofs.Tryd.underlying9 h2
  subst f0; subst f1; subst f2
  refine ⟨⟨k, s, u⟩, ?_, ?_⟩
  · rcases cs with _ | ⟨a, _ | ⟨b, _ | ⟨c, _ | ⟨d, r⟩⟩⟩⟩ <;> simp at hl
    simp at e0 e1 e2
    subst e0; subst e1; subst e2; rfl
  · simp only [bT, List.map_cons, List.map_nil, blk_agg, blks_cons, blk_str]
    omega
theorem rd_slot (h : DataW.trod enc PR W 0 sp hd n 41 cs = some x) : ∃ t : Slot, cs = vSlot t ∧ bS (blk x.1) t := by
  obtain ⟨xs, m, rfl, rfl, hl, hxl, hf⟩ := DataW.trod_struct Go.Proofs.Tryd.underlying41 h
  obtain ⟨y0, y1, rfl⟩ := get2 hxl
  have h0 : DataW.trod enc PR W 0 sp hd m 9 ((cs.drop 0).take (PR.cellsOf 9)) = some y0 := hf 0 _ rfl
  have h1 : DataW.trod enc PR W 0 sp hd m 25 ((cs.drop 1).take (PR.cellsOf 25)) = some y1 := hf 1 _ rfl
  rw [c41] at hl
  simp only [c9, c25, List.getElem?_cons_zero, List.getElem?_cons_succ] at h0 h1
  obtain ⟨s, e0, f0, -⟩ := DataW.trod_string Go.Proofs.Tryd.underlying9 h0
  obtain ⟨t, e1, b1⟩ := rd_term h1
  subst f0
  refine ⟨⟨s, t⟩, ?_, ?_, b1.le ?_⟩
  · rw [split2 (a := 1) (b := 3) hl, e0, e1]; rfl
  · simp only [List.map_cons, List.map_nil, blk_agg, blks_cons, blk_str]; omega
  · simp only [List.map_cons, List.map_nil, blk_agg, blks_cons, blk_str]; omega
theorem rd_pat (h : DataW.trod enc PR W 0 sp hd n 43 cs = some x) : ∃ t : Pat, cs = vPat t ∧ bP (blk x.1) t := by
  obtain ⟨xs, m, rfl, rfl, hl, hxl, hf⟩ := DataW.trod_array Go.Proofs.Tryd.underlying43 h
  obtain ⟨y0, y1, y2, rfl⟩ := get3 hxl
  have h0 : DataW.trod enc PR W 0 sp hd m 41 ((cs.drop (0 * PR.cellsOf 41)).take (PR.cellsOf 41)) = some y0 := hf 0 (by omega)
  have h1 : DataW.trod enc PR W 0 sp hd m 41 ((cs.drop (1 * PR.cellsOf 41)).take (PR.cellsOf 41)) = some y1 := hf 1 (by omega)
  have h2 : DataW.trod enc PR W 0 sp hd m 41 ((cs.drop (2 * PR.cellsOf 41)).take (PR.cellsOf 41)) = some y2 := hf 2 (by omega)
  rw [c43] at hl
  simp only [c41, List.getElem?_cons_zero, List.getElem?_cons_succ] at h0 h1 h2
  obtain ⟨a, e0, b0⟩ := rd_slot h0
  obtain ⟨b, e1, b1⟩ := rd_slot h1
  obtain ⟨c, e2, b2⟩ := rd_slot h2
  refine ⟨⟨a, b, c⟩, ?_, b0.le ?_, b1.le ?_, b2.le ?_⟩
  · have e := split2 (a := 4) (b := 8) hl
    have e' := split2 (cs := (cs.drop 4).take 8) (a := 4) (b := 4) (by simp; omega)
    rw [e, show (cs.drop 0).take 4 = vSlot a from e0, e']
    have k1 : (((cs.drop 4).take 8).drop 0).take 4 = vSlot b := by rw [List.drop_zero, List.take_take]; exact e1
    have k2 : (((cs.drop 4).take 8).drop 4).take 4 = vSlot c := by rw [List.drop_take, List.drop_drop, List.take_take]; exact e2
    rw [k1, k2]; rfl
  all_goals simp only [List.map_cons, List.map_nil, blk_agg, blks_cons]; omega
theorem rd_lit (h : DataW.trod enc PR W 0 sp hd n 68 cs = some x) : ∃ t : Lt, cs = vLit t ∧ bL (blk x.1) t := by
  obtain ⟨xs, m, rfl, rfl, hl, hxl, hf⟩ := DataW.trod_struct Go.Proofs.Tryd.underlying68 h
  obtain ⟨y0, y1, y2, y3, rfl⟩ := get4 hxl
  have h0 : DataW.trod enc PR W 0 sp hd m 66 ((cs.drop 0).take (PR.cellsOf 66)) = some y0 := hf 0 _ rfl
  have h1 : DataW.trod enc PR W 0 sp hd m 43 ((cs.drop 1).take (PR.cellsOf 43)) = some y1 := hf 1 _ rfl
  have h2 : DataW.trod enc PR W 0 sp hd m 41 ((cs.drop 13).take (PR.cellsOf 41)) = some y2 := hf 2 _ rfl
  have h3 : DataW.trod enc PR W 0 sp hd m 41 ((cs.drop 17).take (PR.cellsOf 41)) = some y3 := hf 3 _ rfl
  rw [c68] at hl
  simp only [c66, c43, c41, List.getElem?_cons_zero, List.getElem?_cons_succ] at h0 h1 h2 h3
  obtain ⟨k, e0, f0, -⟩ := DataW.trod_int Go.Proofs.Tryd.underlying66 h0
  obtain ⟨p, e1, b1⟩ := rd_pat h1
  obtain ⟨a, e2, b2⟩ := rd_slot h2
  obtain ⟨b, e3, b3⟩ := rd_slot h3
  refine ⟨⟨k, p, a, b⟩, ?_, b1.le ?_, b2.le ?_, b3.le ?_⟩
  · have e := split2 (a := 1) (b := 20) hl
    have e' := split2 (cs := (cs.drop 1).take 20) (a := 12) (b := 8) (by simp; omega)
    have e2' := split2 (cs := (cs.drop 13).take 8) (a := 4) (b := 4) (by simp; omega)
    rw [e, e0, e']
    have k1 : (((cs.drop 1).take 20).drop 0).take 12 = vPat p := by rw [List.drop_zero, List.take_take]; exact e1
    have k2 : (((cs.drop 1).take 20).drop 12).take 8 = (cs.drop 13).take 8 := by rw [List.drop_take, List.drop_drop, List.take_take]; rfl
    have k3 : (((cs.drop 13).take 8).drop 0).take 4 = vSlot a := by rw [List.drop_zero, List.take_take]; exact e2
    have k4 : (((cs.drop 13).take 8).drop 4).take 4 = vSlot b := by rw [List.drop_take, List.drop_drop, List.take_take]; exact e3
    rw [k1, k2, e2', k3, k4]; rfl
  all_goals simp only [List.map_cons, List.map_nil, blk_agg, blks_cons]; omega
end
theorem rd_slice {H : Type} {enc : TypeId × Value → H} {W : World} {α : Type} [Inhabited α] {f : α → List AV} {S : Nat} {t e : TypeId} {n : Nat} {v : Value} {x : DataW H × List MemPlace} {Q : Nat → α → Prop} (ht : PR.underlying t = some (.slice e)) (hS : PR.cellsOf e = S) (hpos : 0 < S)
    (hq : ∀ {m : Nat} {cs : List Value} {y : DataW H × List MemPlace}, DataW.trod enc PR W 0 (fun _ => true) true m e cs = some y → ∃ a : α, (f a).length = S ∧ (∀ b ∈ f a, AV.cell b = true) ∧ (∀ (j : Nat) (b : AV), (f a)[j]? = some b → VR (imm W) b (cs.getD j default)) ∧ Q (blk y.1) a)
    (hle : ∀ {B C : Nat} {a : α}, Q B a → B ≤ C → Q C a) (h : DataW.trod enc PR W 0 (fun _ => true) true n t [v] = some x) : ∃ l : List α, VR (imm W) (.sl .any S (l.map f)) v ∧ l.length ≤ blk x.1 ∧ ∀ a ∈ l, Q (blk x.1) a := by
  rcases Deep.open_slice ht h with ⟨e1, rfl⟩ | ⟨a, len, cap, m, k, D, Pl, e1, hb, hlc, hcm, hm, rfl, hx⟩
  · injection e1 with e1
    subst e1
    exact ⟨[], .slnil _ _ (.inr rfl), by simp, by simp⟩
  · injection e1 with e1
    subst e1
    simp only [if_true] at hm
    subst hm
    rw [hS] at hx
    obtain ⟨C, hC⟩ := Deep.choose_lt (n := m) (p := fun i cs' => W.cells? 0 (a.add (i * S)) S = some cs' ∧ DataW.trod enc PR W 0 (fun _ => true) true k e cs' = some (D i, Pl i)) hx
    obtain ⟨A, hA⟩ := Deep.choose_lt (n := m) (p := fun i (a : α) => (f a).length = S ∧ (∀ b ∈ f a, AV.cell b = true) ∧ (∀ (j : Nat) (b : AV), (f a)[j]? = some b → VR (imm W) b ((C i).getD j default)) ∧ Q (blk (D i)) a) fun i hi => hq (hC i hi).2
    have hspot : len = 0 ∨ a.spot = none := by
      rcases Nat.eq_zero_or_pos len with h0 | h0
      · exact .inl h0
      · right
        obtain ⟨_, _, h3⟩ := World.cells?_some (hC 0 (by omega)).1
        have h4 := h3 0 hpos
        have h5 : (C 0).length = S := (World.cells?_some (hC 0 (by omega)).1).2.1
        rw [List.getElem?_eq_getElem (by omega)] at h4
        have := World.cell?_spot h4
        simpa [Addr.add] using this
    have hbulk : ∀ i, i < len → blk (D i) ≤ blk (DataW.slice ((List.range len).map D) ((List.range (m - len)).map fun j => D (len + j))) := by
      intro i hi
      rw [blk_slice]
      have := blk_part (l := (List.range len).map D) (d := D i) (List.mem_map.2 ⟨i, List.mem_range.2 hi, rfl⟩)
      omega
    refine ⟨(List.range len).map A, ?_, ?_, ?_⟩
    · have hlen : (((List.range len).map A).map f).length = len := by simp
      have hv : VR (imm W) (.sl .any S (((List.range len).map A).map f)) (.slice (some a) (((List.range len).map A).map f).length m) := by
        refine .sl _ _ _ _ _ (fun i j => (C i).getD j default) ⟨by rw [hlen]; exact hspot, by rw [hlen]; exact hlc, trivial⟩ ?_ ?_ ?_ ?_
        · intro es hes
          simp only [List.map_map, List.mem_map, List.mem_range] at hes
          obtain ⟨i, hi, rfl⟩ := hes
          exact (hA i (by omega)).1
        · intro es hes
          simp only [List.map_map, List.mem_map, List.mem_range] at hes
          obtain ⟨i, hi, rfl⟩ := hes
          exact (hA i (by omega)).2.1
        · intro i es j b h1 h2
          have hi : i < len := by rw [← hlen]; exact (List.getElem?_eq_some_iff.1 h1).1
          rw [List.getElem?_map, List.getElem?_map, List.getElem?_range hi] at h1
          simp only [Option.map_some, Option.some.injEq] at h1
          subst h1
          have hj : j < S := by rw [← (hA i (by omega)).1]; exact (List.getElem?_eq_some_iff.1 h2).1
          obtain ⟨_, h5, h3⟩ := World.cells?_some (hC i (by omega)).1
          have h4 := h3 j hj
          rw [List.getElem?_eq_getElem (by omega), Deep.add_add, add_plain a (hspot.resolve_left (by omega))] at h4
          show W.cell? ⟨a.block, a.off + i * S + j, none⟩ = _
          rw [Nat.add_assoc, h4, List.getD_eq_getElem?_getD, List.getElem?_eq_getElem (by omega)]; rfl
        · intro i es j b h1 h2
          have hi : i < len := by rw [← hlen]; exact (List.getElem?_eq_some_iff.1 h1).1
          rw [List.getElem?_map, List.getElem?_map, List.getElem?_range hi] at h1
          simp only [Option.map_some, Option.some.injEq] at h1
          subst h1
          exact (hA i (by omega)).2.2.1 j b h2
      rwa [hlen] at hv
    · have h1 := blk_len ((List.range len).map D)
      rw [List.length_map, List.length_range] at h1 ⊢
      rw [blk_slice]; omega
    · intro y hy
      simp only [List.mem_map, List.mem_range] at hy
      obtain ⟨i, hi, rfl⟩ := hy
      exact hle (hA i (by omega)).2.2.2 (hbulk i hi)
instance : Inhabited Lt := ⟨litS 0 ⟨#[]⟩⟩
instance : Inhabited Rule := ⟨rNil⟩
theorem lit_cell {vs : List Value} (h : ∀ v ∈ vs, v.oneCell' = true) : ∀ b ∈ vs.map AV.lit, AV.cell b = true := by
  intro b hb
  obtain ⟨v, hv, rfl⟩ := List.mem_map.1 hb
  exact h v hv
theorem rd_body {H : Type} {enc : TypeId × Value → H} {W : World} {n : Nat} {v : Value} {x : DataW H × List MemPlace} (h : DataW.trod enc PR W 0 (fun _ => true) true n 44 [v] = some x) : ∃ l : List Lt, VR (imm W) (.sl .any 21 (l.map eLit)) v ∧ l.length ≤ blk x.1 ∧ ∀ a ∈ l, bL (blk x.1) a :=
  rd_slice (Q := bL) Go.Proofs.Tryd.underlying44 c68 (by omega) (fun hy => by
    obtain ⟨t, rfl, hb⟩ := rd_lit hy
    exact ⟨t, by rw [eLit_v, List.length_map, vLit_len], by rw [eLit_v]; exact lit_cell (vLit_one t), by rw [eLit_v]; exact vr_lits (vLit_one t), hb⟩) (fun h k => h.le k) h
def bR (B : Nat) (r : Rule) : Prop := bP B r.head ∧ r.body.length ≤ B ∧ ∀ l ∈ r.body, bL B l
theorem bR.le {B C : Nat} {r : Rule} (h : bR B r) (k : B ≤ C) : bR C r := ⟨h.1.le k, Nat.le_trans h.2.1 k, fun l hl => (h.2.2 l hl).le k⟩
theorem rd_rule {H : Type} {enc : TypeId × Value → H} {W : World} {n : Nat} {cs : List Value} {x : DataW H × List MemPlace} (h : DataW.trod enc PR W 0 (fun _ => true) true n 46 cs = some x) :
    ∃ r : Rule, (eRule r).length = 13 ∧ (∀ b ∈ eRule r, AV.cell b = true) ∧ (∀ (j : Nat) (b : AV), (eRule r)[j]? = some b → VR (imm W) b (cs.getD j default)) ∧ bR (blk x.1) r := by
  obtain ⟨xs, m, rfl, rfl, hl, hxl, hf⟩ := DataW.trod_struct Go.Proofs.Tryd.underlying46 h
  obtain ⟨y0, y1, rfl⟩ := get2 hxl
  have h0 : DataW.trod enc PR W 0 (fun _ => true) true m 43 ((cs.drop 0).take (PR.cellsOf 43)) = some y0 := hf 0 _ rfl
  have h1 : DataW.trod enc PR W 0 (fun _ => true) true m 44 ((cs.drop 12).take (PR.cellsOf 44)) = some y1 := hf 1 _ rfl
  rw [c46] at hl
  simp only [c43, c44, List.getElem?_cons_zero, List.getElem?_cons_succ] at h0 h1
  obtain ⟨p, e0, b0⟩ := rd_pat h0
  obtain ⟨v, ev⟩ : ∃ v, (cs.drop 12).take 1 = [v] := by
    have hlen : ((cs.drop 12).take 1).length = 1 := by simp; omega
    rcases hq : (cs.drop 12).take 1 with _ | ⟨v, _ | ⟨u, r⟩⟩ <;> rw [hq] at hlen <;> simp at hlen
    exact ⟨v, rfl⟩
  rw [ev] at h1
  obtain ⟨b, hv, hbl, hbL⟩ := rd_body h1
  have hcs : cs = vPat p ++ [v] := by rw [split2 (a := 12) (b := 1) hl, ev, show (cs.drop 0).take 12 = vPat p from e0]
  refine ⟨⟨p, b⟩, rfl, fun y hy => ?_, fun j y hy => ?_, ?_⟩
  · rcases List.mem_append.1 hy with hy | hy
    · exact lit_cell (vPat_one p) y hy
    · rw [List.mem_singleton] at hy; subst hy; rfl
  · rw [hcs]
    have hpl : (ePat p).length = 12 := rfl
    have hvl : (vPat p).length = 12 := rfl
    have hy' : (ePat p ++ [eBody b])[j]? = some y := hy
    by_cases c : j < 12
    · rw [List.getElem?_append_left (by omega)] at hy'
      rw [List.getD_eq_getElem?_getD, List.getElem?_append_left (by omega), ← List.getD_eq_getElem?_getD]
      exact vr_lits (vPat_one p) j y hy'
    · rw [List.getElem?_append_right (by omega), hpl] at hy'
      have hj : j - 12 = 0 := by have := (List.getElem?_eq_some_iff.1 hy').1; simpa using this
      rw [hj] at hy'
      injection hy' with hy'
      subst hy'
      rw [List.getD_eq_getElem?_getD, List.getElem?_append_right (by omega), hvl, hj]
      exact hv
  · refine ⟨b0.le ?_, Nat.le_trans hbl ?_, fun l hlm => (hbL l hlm).le ?_⟩
    all_goals simp only [List.map_cons, List.map_nil, blk_agg, blks_cons]; omega
theorem rd_rules {H : Type} {enc : TypeId × Value → H} {W : World} {n : Nat} {v : Value} {x : DataW H × List MemPlace} (h : DataW.trod enc PR W 0 (fun _ => true) true n 22 [v] = some x) : ∃ l : List Rule, VR (imm W) (.sl .any 13 (l.map eRule)) v ∧ l.length ≤ blk x.1 ∧ ∀ a ∈ l, bR (blk x.1) a :=
  rd_slice (Q := bR) Go.Proofs.Tryd.underlying22 c46 (by omega) (fun hy => rd_rule hy) (fun h k => h.le k) h
theorem okRs_of {B : Nat} {l : List Rule} (hB : B ≤ 1048576) (hl : l.length ≤ B) (h : ∀ a ∈ l, bR B a) : okRs l :=
  ⟨by omega, fun r hr => (h r hr).le hB⟩
theorem kids : Kids PR (· < PR.types.size) := kids_rows (by kernel_rfl) (by kernel_rfl)
theorem full : ∀ t e, t < PR.types.size → PR.underlying t = some (.slice e) → 0 < PR.cellsOf e := slices_full_of PR (by kernel_rfl)
theorem trodAll_carry {H : Type} {enc : TypeId × Value → H} {P : Program} {w w' : World} {base : Nat} {spare : Nat → Bool} {held : Bool} : ∀ {ts : List TypeId} {vs : List Value} {ds : List (DataW H)} {ps : List MemPlace}, DataW.TrodAll enc P w base spare held ts vs ds ps → (∀ p ∈ ps, w.sameAt w' p) → DataW.TrodAll enc P w' base spare held ts vs ds ps
  | [], [], [], _, h, _ => h
  | _ :: _, _ :: _, _ :: _, _, ⟨p, q, ⟨n, h1⟩, h2, e⟩, hs => ⟨p, q, ⟨n, DataW.trod_carry n _ _ _ h1 fun x hx => hs x (by rw [e]; exact List.mem_append_left _ hx)⟩, trodAll_carry h2 fun x hx => hs x (by rw [e]; exact List.mem_append_right _ hx), e⟩
end Go.AM.Tryd
end
