/- StrataOrder, the tied card: whatever way the rules are turned round, each term's number is the same. Conditions: none ahead of the given statement (its own bounds stand in it). -/
import Derived.Test.YtdognapppnfpiaaDoorCards
import Derived.Test.YtdognapppnfpiaaDoorTie
import Derived.Deep.DeepHandedRow
import Derived.Lay
import Derived.LaidMore
import Derived.Stop.Joined
import Derived.Test.YtdognapppnfpiaaDoorB15
section
set_option maxRecDepth 100000
set_option linter.unusedVariables false
set_option linter.unusedSimpArgs false
namespace Go.Proofs.YtdognapppnfpiaaDoor.bridge
open Go Go.AM Go.AM.D Go.AM.Tryd Go.RowKit Go.ChangeShapes Go.WideShapes Go.ChangeAt
theorem own : ownKnob Tryd.prog.godebug = none := by kernel_rfl
theorem slice_cells {W : World} {r : Reach} {b t e : Nat} {v : Value} (ht : Tryd.prog.underlying t = some (.slice e)) (h : Value.okWide Tryd.prog W r b t v) : v.cells.toList = [v] := by
  unfold Value.okWide at h
  rw [ht] at h
  simp only [Cell.okWide, ht] at h
  cases v <;> first | rfl | (simp [Cell.ok, ht] at h)
theorem term_value {W : World} {r : Reach} {b : Nat} {v : Value} {t : Term} (h : Value.okWide Tryd.prog W r b 25 v) (hv : v.cells.toList = vTerm t) : VR (imm W) (.agg (eTerm t)) v := by
  unfold Value.okWide at h
  rw [Tryd.underlying25] at h
  obtain ⟨cs, rfl, hsz, -⟩ := h
  have hc : cs.toList = vTerm t := hv
  refine .agg _ _ ?_ ?_ ?_
  · have := congrArg List.length hc
    rw [eTerm_v, List.length_map, ← this, Array.length_toList]
  · rw [eTerm_v]
    exact lit_cell (by intro v hv; simp only [vTerm, List.mem_cons, List.not_mem_nil, or_false] at hv; rcases hv with rfl | rfl | rfl <;> rfl)
  · intro i a e
    rw [eTerm_v] at e
    have := vr_lits (I := imm W) (vs := vTerm t) (by intro v hv; simp only [vTerm, List.mem_cons, List.not_mem_nil, or_false] at hv; rcases hv with rfl | rfl | rfl <;> rfl) i a e
    rw [← hc, List.getD_eq_getElem?_getD, Array.getElem?_toList, ← Array.getD_eq_getD_getElem?] at this
    exact this
theorem vrs2 {I : Imm} {a b : AV} {v u : Value} (h1 : VR I a v) (h2 : VR I b u) : VRs I [a, b] #[v, u] := ⟨rfl, fun i x e => by
  rcases i with _ | _ | i
  · injection e with e; subst e; exact h1
  · injection e with e; subst e; exact h2
  · simp at e⟩
theorem contract3 (hP : ∀ l, okRs l → (fewF l && decide (l.length ≤ 16)) = true → findN l = refN l) (H : Type) (enc : TypeId × Value → H) (W : World) (base : Nat) (args : Array Value) (ds gs : List (DataW H)) (before : List MemPlace)
    (hval : ∀ (j : Nat) t v, Tryd.f3.params[j]? = some t → args[j]? = some v → Value.okWide Tryd.prog W .any base t v)
    (hW : DataW.Whole enc Tryd.prog Tryd.f3.params.toList Rows.strataLayersSpec.vars false W args.toList ds gs before) (hk : Rows.uptoSmall H (ds ++ gs) = true) :
    Calls Tryd.prog 3 args W fun e W' => ∃ v, e = .returned v ∧ Rows.strataLayersSpec.post enc Tryd.prog Tryd.f3 false true false false W args v W' := by
  have hW' := hW
  have hlt := hW.lt
  obtain ⟨p, q, hA0, hV, rfl, hfz, hnd⟩ := hW
  have hA : DataW.TrodAll enc Tryd.prog W 0 (fun _ => true) true Tryd.f3.params.toList args.toList ds p := hA0
  rw [Tryd.params3] at hA hval
  have hAk := hA
  obtain ⟨v0, vs0, d0, ds0, p0, q0, hargs, rfl, rfl, h0, r0⟩ := trodAll_cons hA
  obtain ⟨v1, vs1, d1, ds1, p1, q1, rfl, rfl, rfl, h1, r1⟩ := trodAll_cons r0
  obtain ⟨rfl, rfl, rfl⟩ := trodAll_nil r1
  obtain rfl : args = #[v0, v1] := by cases args; simp_all
  obtain ⟨rfl, rfl⟩ := trodVars_none hV
  have hv0 := hval 0 22 v0 rfl rfl
  have hv1 := hval 1 25 v1 rfl rfl
  obtain ⟨n0, h0⟩ := h0
  obtain ⟨n1, h1⟩ := h1
  rw [slice_cells Tryd.underlying22 hv0] at h0
  obtain ⟨l, hl, hlen, hlb⟩ := rd_rules h0
  obtain ⟨t, ht, -⟩ := rd_term h1
  have hbulk : Rows.uptoBulkAll ([d0, d1] ++ ([] : List (DataW H))) ≤ 1048576 := of_decide_eq_true hk
  have hb0 : blk d0 ≤ 1048576 := by
    have e : Rows.uptoBulkAll ([d0, d1] ++ ([] : List (DataW H))) = blk d0 + (blk d1 + 0) := by simp only [List.cons_append, List.nil_append, Rows.uptoBulkAll]
    omega
  have hok : okRs l := okRs_of hb0 hlen hlb
  refine (calls_of Tryd.func3 (by kernel_rfl) (by kernel_rfl) (law3_ l t hok (hP l hok)) (vrs2 hl (term_value hv1 ht))).mono fun e W' ⟨he, hb⟩ => ?_
  subst he
  refine ⟨_, rfl, _, _, _, [], p0 ++ (p1 ++ []), [], hW', trodAll_mk1 (shut_bool Tryd.underlying4 _), ?_, rfl, hb.frame _, fun h => by cases h⟩
  rw [Tryd.params3]
  exact trodAll_carry (DataW.TrodAll.respare kids full (by decide +kernel) hAk fun x hx => by simpa using hlt x (by simpa using hx)) fun x hx => hb.same (hlt x (by simpa using hx))
theorem witness_row_shaped {H : Type} {enc : TypeId × Value → H} {C : Checked} {os : Os} {f : FuncId} {fn : Func} {s : OpenSpec} {conds : List PathCond} {apart : Bool} {laid : List (String × DataW Unit)} (modest : Bool) (w0 : World) (args : Array Value) (hos : w0.os = os)
    (hsh : (w0.forCall (fun _ _ => 0) ⟨#[], args, []⟩).Shaped C.prog) (hok : Input.okWideB C.prog (w0.forCall (fun _ _ => 0) ⟨#[], args, []⟩) f ⟨#[], args, []⟩ = true)
    (hrow : s.preRow enc C.prog fn conds apart laid (w0.forCall (fun _ _ => 0) ⟨#[], args, []⟩).memory args) :
    ∃ (w : World) (tape : Tape) (i : Input), w.os = os ∧ (w.forCall tape i).Shaped C.prog ∧ i.vars = [] ∧ Input.okWide C.prog (w.forCall tape i) .any w.heap.size f i ∧
      s.preRow enc C.prog fn conds apart laid (w.forCall tape i).memory i.args ∧ ({ modest := modest } : Assume).holds C.prog (lone (Frame.enter C.prog f i.args .normal) [] (w.forCall tape i)) :=
  ⟨w0, fun _ _ => 0, ⟨#[], args, []⟩, hos, hsh, (Input.okWide_of_okWideB (base := 0) hok).1, (Input.okWide_of_okWideB hok).2, hrow, by
    simp only [Assume.holds]
    exact ⟨by simp, by simp, fun _ => Modest.zero, by simp, by simp⟩⟩
noncomputable def laidW (os : Os) : World := World.laidAll Tryd.prog os Rows.strataLayersUptoRow.laid
theorem laid_met (os : Os) (args : Array Value) : laidMetH Tryd.prog Rows.strataLayersUptoRow.laid ((laidW os).forCall (fun _ _ => 0) ⟨#[], args, []⟩).memory := by
  rw [MakeChecks.laidMetH_plain _ _ _ (by kernel_rfl)]
  exact laidMet_laidAll _ (by kernel_rfl) (by kernel_rfl)
abbrev args3 : Array Value := #[.slice none 0 0, .agg #[.int .i64 0, .string .empty, .string .empty]]
theorem reads3 (os : Os) {H : Type} (enc : TypeId × Value → H) : ∃ places, DataW.whole enc Tryd.prog ((laidW os).forCall (fun _ _ => 0) ⟨#[], args3, []⟩).memory Tryd.f3.params.toList Rows.strataLayersSpec.vars false args3.toList 8 = some ([.nil, .agg [.lit (.int .i64 0), .lit (.string []), .lit (.string [])]], [], places) :=
  ⟨[], by kernel_rfl⟩
theorem lifted3 (hP : ∀ l, okRs l → (fewF l && decide (l.length ≤ 16)) = true → findN l = refN l) (os : Os) (started : os.Started) (H : Type) (enc : TypeId × Value → H) (F : Stop.Interp) :
    ReturnsInHanded {} Tryd.checked os 3 .any ((Rows.OpenSpec.upto Rows.strataLayersSpec).preRow enc Tryd.prog Tryd.f3 Rows.strataLayersUptoRow.domain false Rows.strataLayersUptoRow.laid) (((Rows.OpenSpec.upto Rows.strataLayersSpec).at F).post enc Tryd.prog Tryd.f3 false true false false) := by
  obtain ⟨places, hx⟩ := reads3 os enc
  refine returnsInHanded_of_row (C := Tryd.checked) (s := Rows.OpenSpec.upto Rows.strataLayersSpec) own started (by kernel_rfl) Tryd.func3
    (witness_row_shaped (enc := enc) (C := Tryd.checked) false (laidW os) args3 (World.laidAll_os _ _ _) (World.shaped_of_ZipB (by kernel_rfl) (by kernel_rfl)) (by kernel_rfl)
      (OpenSpec.preRow_of_cond 8 hx (by kernel_rfl) (fun k hk => by cases hk; kernel_rfl) (by kernel_rfl) (laid_met os _))) ?_
  intro W base args ds gs before hval hW _ hcond _ hL _ _
  exact contract3 hP H enc W base args ds gs before hval hW (hcond _ rfl)
theorem said3 (hP : ∀ l, okRs l → (fewF l && decide (l.length ≤ 16)) = true → findN l = refN l) : Rows.StrataLayersUptoSaid :=
  OpenClaim.holds_of_cond 3 Tryd.f3 rfl rfl rfl rfl rfl rfl rfl ⟨rfl, rfl, rfl, rfl, rfl⟩ rfl rfl rfl rfl rfl (by kernel_rfl) Tryd.func3 (by kernel_rfl)
    (of_decide_eq_true (by kernel_rfl)) (by unfold Func.isWrapper; first | (rw [if_pos (by decide +kernel)]; kernel_rfl) | (rw [if_neg (by decide +kernel)]; exact ⟨rfl, rfl⟩))
    (fun os started H enc _ F => by rw [OpenClaim.pre_eq_preRow]; exact lifted3 hP os started H enc F)
theorem plain3 (f : FuncId) (fn : Func) (hf : Tryd.pinned.checked.prog.funcNamed "rhizome/rhizomelaw10.StrataLayers" = some f) (hfn : Tryd.pinned.checked.prog.funcs[f]? = some fn) :
    false = Tryd.pinned.checked.prog.looks [] ∧ ∀ (j : Nat) t, fn.params[j]? = some t → Tryd.pinned.checked.prog.wantsStandIn t = false := by
  obtain rfl : f = 3 := Option.some.inj ((show Tryd.prog.funcNamed "rhizome/rhizomelaw10.StrataLayers" = some 3 by kernel_rfl).symm.trans hf) |>.symm
  obtain rfl : fn = Tryd.f3 := (Option.some.inj (Tryd.func3.symm.trans hfn)).symm
  refine ⟨by kernel_rfl, fun j t ht => ?_⟩
  rw [Tryd.params3] at ht
  have hm : t ∈ [22, 25] := by simpa using Array.mem_of_getElem? ht
  have hall : ([22, 25].all fun u => !Tryd.prog.wantsStandIn u) = true := by kernel_rfl
  exact (show Tryd.prog.wantsStandIn t = false by simpa using List.all_eq_true.1 hall t hm)
theorem card3 (hP : ∀ l, okRs l → (fewF l && decide (l.length ≤ 16)) = true → findN l = refN l) : Rows.StrataLayersUptoCardSaid :=
  Claim7.holds_tied_plain_at .later [] _ _ _ _ (said3 hP) (fun _ h => by cases h) (by kernel_rfl) (fun _ h => by cases h) strataLayersUpto_row_tie rfl ⟨rfl, rfl⟩ (by kernel_rfl) rfl plain3 (by kernel_rfl)
end Go.Proofs.YtdognapppnfpiaaDoor.bridge
end
section
set_option linter.unusedVariables false
set_option linter.unusedSimpArgs false
set_option maxRecDepth 100000
namespace Go.AM.Tryd
open Go Go.AM Go.AM.D
def cont (b : UInt8) : Bool := decide (128 ≤ b.toNat) && decide (b.toNat < 192)
def dec : List UInt8 → Option (Int × Nat)
  | [] => none
  | a :: l =>
    if a.toNat < 128 then some (a.toNat, 1)
    else if 194 ≤ a.toNat ∧ a.toNat < 224 then match l with
      | b :: _ => if cont b = true then some (64 * ((a.toNat : Int) - 192) + ((b.toNat : Int) - 128), 2) else none
      | _ => none
    else if 224 ≤ a.toNat ∧ a.toNat < 240 then match l with
      | b :: c :: _ => if (cont b && cont c) = true ∧ 2048 ≤ 4096 * ((a.toNat : Int) - 224) + 64 * ((b.toNat : Int) - 128) + ((c.toNat : Int) - 128) ∧ ¬ (55296 ≤ 4096 * ((a.toNat : Int) - 224) + 64 * ((b.toNat : Int) - 128) + ((c.toNat : Int) - 128) ∧ 4096 * ((a.toNat : Int) - 224) + 64 * ((b.toNat : Int) - 128) + ((c.toNat : Int) - 128) ≤ 57343) then some (4096 * ((a.toNat : Int) - 224) + 64 * ((b.toNat : Int) - 128) + ((c.toNat : Int) - 128), 3) else none
      | _ => none
    else if 240 ≤ a.toNat ∧ a.toNat < 245 then match l with
      | b :: c :: d :: _ => if (cont b && cont c && cont d) = true ∧ 65536 ≤ 262144 * ((a.toNat : Int) - 240) + 4096 * ((b.toNat : Int) - 128) + 64 * ((c.toNat : Int) - 128) + ((d.toNat : Int) - 128) ∧ 262144 * ((a.toNat : Int) - 240) + 4096 * ((b.toNat : Int) - 128) + 64 * ((c.toNat : Int) - 128) + ((d.toNat : Int) - 128) ≤ 1114111 then some (262144 * ((a.toNat : Int) - 240) + 4096 * ((b.toNat : Int) - 128) + 64 * ((c.toNat : Int) - 128) + ((d.toNat : Int) - 128), 4) else none
      | _ => none
    else none
/-! Bytes -/
theorem byte_lt (a : UInt8) : a.toNat < 256 := a.toNat_lt
theorem and192 : ∀ c : Fin 256, (andI .u8 (c.val : Int) 192 = 128) ↔ (128 ≤ c.val ∧ c.val < 192) := by decide +kernel
theorem and63 : ∀ c : Fin 256, IntKind.wrap .i64 (andI .u8 (c.val : Int) 63) = ((c.val % 64 : Nat) : Int) := by decide +kernel
theorem and31 : ∀ c : Fin 256, IntKind.wrap .i64 (andI .u8 (c.val : Int) 31) = ((c.val % 32 : Nat) : Int) := by decide +kernel
theorem and15 : ∀ c : Fin 256, IntKind.wrap .i64 (andI .u8 (c.val : Int) 15) = ((c.val % 16 : Nat) : Int) := by decide +kernel
theorem and7 : ∀ c : Fin 256, IntKind.wrap .i64 (andI .u8 (c.val : Int) 7) = ((c.val % 8 : Nat) : Int) := by decide +kernel
theorem and192' (b : UInt8) : (andI .u8 (b.toNat : Int) 192 ≠ 128) ↔ cont b = false := by
  have := and192 ⟨b.toNat, byte_lt b⟩
  simp only [ne_eq, this, cont, Bool.and_eq_false_iff, decide_eq_false_iff_not]
  omega
theorem and63' (b : UInt8) : IntKind.wrap .i64 (andI .u8 (b.toNat : Int) 63) = ((b.toNat % 64 : Nat) : Int) := and63 ⟨b.toNat, byte_lt b⟩
theorem or6 {r : Nat} {x : Nat} (hr : r < 1048576) (hx : x < 64) : orI .i64 (shlI .i64 (r : Int) 6) ((x : Nat) : Int) = ((64 * r + x : Nat) : Int) := by
  have h1 : shlI .i64 (r : Int) 6 = ((64 * r : Nat) : Int) := by
    unfold shlI
    rw [show min (6 : Int).toNat IntKind.i64.bits = 6 from rfl, i64w (by omega) (by omega)]
    omega
  rw [h1]
  unfold orI
  have h2 : (BitVec.ofInt IntKind.i64.bits ((64 * r : Nat) : Int) ||| BitVec.ofInt IntKind.i64.bits ((x : Nat) : Int)).toNat = 64 * r + x := by
    rw [BitVec.toNat_or, BitVec.ofInt_natCast, BitVec.ofInt_natCast, BitVec.toNat_ofNat, BitVec.toNat_ofNat, Nat.mod_eq_of_lt (show 64 * r < 2 ^ IntKind.i64.bits by show _ < 2 ^ 64; omega), Nat.mod_eq_of_lt (show x < 2 ^ IntKind.i64.bits by show _ < 2 ^ 64; omega)]
    exact (Nat.two_pow_add_eq_or_of_lt (i := 6) hx r).symm
  rw [h2, i64w (by omega) (by omega)]
def uOf : Option (Int × Nat) → Int × Int × Int
  | some p => (p.1, (p.2 : Int), 0)
  | none => (0, 0, 4)
theorem headF_eq (a : UInt8) : headF (a.toNat : Int) = if a.toNat < 128 then ((a.toNat : Int), 0) else if 194 ≤ a.toNat ∧ a.toNat < 224 then (((a.toNat % 32 : Nat) : Int), 1) else if 224 ≤ a.toNat ∧ a.toNat < 240 then (((a.toNat % 16 : Nat) : Int), 2) else if 240 ≤ a.toNat ∧ a.toNat < 245 then (((a.toNat % 8 : Nat) : Int), 3) else (0, -1) := by
  have hb := byte_lt a
  unfold headF
  rw [show IntKind.wrap .i64 (andI .u8 (a.toNat : Int) 31) = ((a.toNat % 32 : Nat) : Int) from and31 ⟨a.toNat, hb⟩, show IntKind.wrap .i64 (andI .u8 (a.toNat : Int) 15) = ((a.toNat % 16 : Nat) : Int) from and15 ⟨a.toNat, hb⟩, show IntKind.wrap .i64 (andI .u8 (a.toNat : Int) 7) = ((a.toNat % 8 : Nat) : Int) from and7 ⟨a.toNat, hb⟩, i64w (by omega) (by omega)]
  simp only [Bool.and_eq_true, decide_eq_true_eq]
  by_cases h1 : a.toNat < 128
  · rw [if_pos (by omega), if_pos h1]
  · rw [if_neg (by omega), if_neg h1]
    by_cases h2 : 194 ≤ a.toNat ∧ a.toNat < 224
    · rw [if_pos (by omega), if_pos h2]
    · rw [if_neg (by omega), if_neg h2]
      by_cases h3 : 224 ≤ a.toNat ∧ a.toNat < 240
      · rw [if_pos (by omega), if_pos h3]
      · rw [if_neg (by omega), if_neg h3]
        by_cases h4 : 240 ≤ a.toNat ∧ a.toNat < 245
        · rw [if_pos (by omega), if_pos h4]
        · rw [if_neg (by omega), if_neg h4]
theorem mayF_iff2 (r : Int) : mayF r = true ↔ (0 ≤ r ∧ r ≤ 1114111 ∧ ¬ (55296 ≤ r ∧ r ≤ 57343)) := by
  simp only [mayF, Bool.and_eq_true, Bool.or_eq_true, decide_eq_true_eq]; omega
theorem ne_empty {s : ByteArray} {a : UInt8} {l : List UInt8} (h : bys s = a :: l) : s ≠ ⟨#[]⟩ := by
  intro e; subst e; cases h
theorem cont_at {s : ByteArray} {a : UInt8} {l : List UInt8} (h : bys s = a :: l) (i : Nat) {b : UInt8} (hb : l[i]? = some b) : contF s i = (b.toNat : Int) := by
  unfold contF
  rw [h, List.getD_eq_getElem?_getD, List.getElem?_cons_succ, hb]; rfl
theorem ugetF_dec (s : ByteArray) : ugetF s = uOf (dec (bys s)) := by
  have hsz := bsize s
  rcases hs : bys s with _ | ⟨a, l⟩
  · have e : s = ⟨#[]⟩ := bytes_inj (b := ⟨#[]⟩) hs
    rw [e]; rfl
  have hne := ne_empty hs
  have hm : moreF s = (headF (a.toNat : Int)).2 := by rw [moreF, if_pos hne, hs]; rfl
  have hf : firstF s = (headF (a.toNat : Int)).1 := by rw [firstF, if_pos hne, hs]; rfl
  rw [hs] at hsz
  simp only [List.length_cons] at hsz
  have hb := byte_lt a
  rw [headF_eq] at hm hf
  simp only [dec]
  by_cases h1 : a.toNat < 128
  · rw [if_pos h1] at hm hf
    rw [if_pos h1, ugetF, if_neg (by rw [hm]; simp only [Bool.or_eq_true, decide_eq_true_eq]; omega), hm, hf]
    simp only [Int.toNat_zero, tailF]
    rw [if_pos (by rw [Bool.and_eq_true, mayF_iff2, decide_eq_true_eq, sizeF, if_pos (by omega)]; omega)]
    rfl
  rw [if_neg h1] at hm hf; rw [if_neg h1]
  by_cases h2 : 194 ≤ a.toNat ∧ a.toNat < 224
  · rw [if_pos h2] at hm hf; rw [if_pos h2]
    rcases l with _ | ⟨b, l⟩
    · rw [ugetF, if_pos (by rw [hm]; simp only [Bool.or_eq_true, decide_eq_true_eq]; simp only [List.length_nil, List.length_cons] at hsz; omega)]; rfl
    · simp only [List.length_cons] at hsz
      rw [ugetF, if_neg (by rw [hm]; simp only [Bool.or_eq_true, decide_eq_true_eq]; omega), hm, hf]
      simp only [show (1 : Int).toNat = 1 from rfl, tailF, cont_at hs 0 (b := b) rfl, and192', and63']
      by_cases hc : cont b = true
      · have hc' := hc
        simp only [cont, Bool.and_eq_true, decide_eq_true_eq] at hc'
        rw [if_neg (by rw [hc]; simp), if_pos hc, or6 (by omega) (by omega)]
        simp only []
        rw [if_pos (by rw [Bool.and_eq_true, mayF_iff2, decide_eq_true_eq, sizeF, if_neg (by omega), if_pos (by omega)]; omega)]
        simp only [uOf]
        congr 1
        · omega
      · rw [if_pos (by simpa using hc), if_neg hc]; rfl
  rw [if_neg h2] at hm hf; rw [if_neg h2]
  by_cases h3 : 224 ≤ a.toNat ∧ a.toNat < 240
  · rw [if_pos h3] at hm hf; rw [if_pos h3]
    rcases l with _ | ⟨b, _ | ⟨c, l⟩⟩
    · rw [ugetF, if_pos (by rw [hm]; simp only [Bool.or_eq_true, decide_eq_true_eq]; simp only [List.length_nil, List.length_cons] at hsz; omega)]; rfl
    · rw [ugetF, if_pos (by rw [hm]; simp only [Bool.or_eq_true, decide_eq_true_eq]; simp only [List.length_nil, List.length_cons] at hsz; omega)]; rfl
    · simp only [List.length_cons] at hsz
      rw [ugetF, if_neg (by rw [hm]; simp only [Bool.or_eq_true, decide_eq_true_eq]; omega), hm, hf]
      simp only [show (2 : Int).toNat = 2 from rfl, tailF, cont_at hs 0 (b := b) rfl, cont_at hs 1 (b := c) rfl, and192', and63']
      by_cases hc : cont b = true
      · by_cases hd : cont c = true
        · have hc' := hc
          have hd' := hd
          simp only [cont, Bool.and_eq_true, decide_eq_true_eq] at hc' hd'
          rw [if_neg (by rw [hc]; simp), if_neg (by rw [hd]; simp), or6 (by omega) (by omega), or6 (by omega) (by omega)]
          simp only [hc, hd, Bool.and_self, true_and]
          have hr : ((64 * (64 * (a.toNat % 16) + b.toNat % 64) + c.toNat % 64 : Nat) : Int) = 4096 * ((a.toNat : Int) - 224) + 64 * ((b.toNat : Int) - 128) + ((c.toNat : Int) - 128) := by omega
          rw [hr]
          by_cases hg : 2048 ≤ 4096 * ((a.toNat : Int) - 224) + 64 * ((b.toNat : Int) - 128) + ((c.toNat : Int) - 128) ∧ ¬ (55296 ≤ 4096 * ((a.toNat : Int) - 224) + 64 * ((b.toNat : Int) - 128) + ((c.toNat : Int) - 128) ∧ 4096 * ((a.toNat : Int) - 224) + 64 * ((b.toNat : Int) - 128) + ((c.toNat : Int) - 128) ≤ 57343)
          · rw [if_pos (by rw [Bool.and_eq_true, mayF_iff2, decide_eq_true_eq, sizeF, if_neg (by omega), if_neg (by omega), if_pos (by omega)]; omega), if_pos hg]; rfl
          · rw [if_neg ?_, if_neg hg]
            · rfl
            · rw [Bool.and_eq_true, mayF_iff2, decide_eq_true_eq, sizeF]
              intro ⟨k1, k2⟩
              split at k2
              · omega
              · split at k2
                · omega
                · omega
        · rw [if_neg (by rw [hc]; simp), if_pos (by simpa using hd), if_neg (by simp [hd])]; rfl
      · rw [if_pos (by simpa using hc), if_neg (by simp [hc])]; rfl
  rw [if_neg h3] at hm hf; rw [if_neg h3]
  by_cases h4 : 240 ≤ a.toNat ∧ a.toNat < 245
  · rw [if_pos h4] at hm hf; rw [if_pos h4]
    rcases l with _ | ⟨b, _ | ⟨c, _ | ⟨d, l⟩⟩⟩
    · rw [ugetF, if_pos (by rw [hm]; simp only [Bool.or_eq_true, decide_eq_true_eq]; simp only [List.length_nil, List.length_cons] at hsz; omega)]; rfl
    · rw [ugetF, if_pos (by rw [hm]; simp only [Bool.or_eq_true, decide_eq_true_eq]; simp only [List.length_nil, List.length_cons] at hsz; omega)]; rfl
    · rw [ugetF, if_pos (by rw [hm]; simp only [Bool.or_eq_true, decide_eq_true_eq]; simp only [List.length_nil, List.length_cons] at hsz; omega)]; rfl
    · simp only [List.length_cons] at hsz
      rw [ugetF, if_neg (by rw [hm]; simp only [Bool.or_eq_true, decide_eq_true_eq]; omega), hm, hf]
      simp only [show (3 : Int).toNat = 3 from rfl, tailF, cont_at hs 0 (b := b) rfl, cont_at hs 1 (b := c) rfl, cont_at hs 2 (b := d) rfl, and192', and63']
      by_cases hc : cont b = true
      · by_cases hd : cont c = true
        · by_cases he : cont d = true
          · have hc' := hc
            have hd' := hd
            have he' := he
            simp only [cont, Bool.and_eq_true, decide_eq_true_eq] at hc' hd' he'
            rw [if_neg (by rw [hc]; simp), if_neg (by rw [hd]; simp), if_neg (by rw [he]; simp), or6 (by omega) (by omega), or6 (by omega) (by omega), or6 (by omega) (by omega)]
            simp only [hc, hd, he, Bool.and_self, true_and]
            have hr : ((64 * (64 * (64 * (a.toNat % 8) + b.toNat % 64) + c.toNat % 64) + d.toNat % 64 : Nat) : Int) = 262144 * ((a.toNat : Int) - 240) + 4096 * ((b.toNat : Int) - 128) + 64 * ((c.toNat : Int) - 128) + ((d.toNat : Int) - 128) := by omega
            rw [hr]
            by_cases hg : 65536 ≤ 262144 * ((a.toNat : Int) - 240) + 4096 * ((b.toNat : Int) - 128) + 64 * ((c.toNat : Int) - 128) + ((d.toNat : Int) - 128) ∧ 262144 * ((a.toNat : Int) - 240) + 4096 * ((b.toNat : Int) - 128) + 64 * ((c.toNat : Int) - 128) + ((d.toNat : Int) - 128) ≤ 1114111
            · rw [if_pos (by rw [Bool.and_eq_true, mayF_iff2, decide_eq_true_eq, sizeF, if_neg (by omega), if_neg (by omega), if_neg (by omega)]; omega), if_pos hg]; rfl
            · rw [if_neg ?_, if_neg hg]
              · rfl
              · rw [Bool.and_eq_true, mayF_iff2, decide_eq_true_eq, sizeF]
                intro ⟨k1, k2⟩
                split at k2
                · omega
                · split at k2
                  · omega
                  · split at k2
                    · omega
                    · omega
          · rw [if_neg (by rw [hc]; simp), if_neg (by rw [hd]; simp), if_pos (by simpa using he), if_neg (by simp [he])]; rfl
        · rw [if_neg (by rw [hc]; simp), if_pos (by simpa using hd), if_neg (by simp [hd])]; rfl
      · rw [if_pos (by simpa using hc), if_neg (by simp [hc])]; rfl
  rw [if_neg h4] at hm hf; rw [if_neg h4]
  rw [ugetF, if_pos (by rw [hm]; simp)]; rfl
end Go.AM.Tryd
end
section
set_option linter.unusedVariables false
set_option linter.unusedSimpArgs false
set_option maxRecDepth 100000
namespace Go.AM.Tryd
open Go Go.AM Go.AM.D
theorem bys_push (r : ByteArray) (b : UInt8) : bys (r.push b) = bys r ++ [b] := by
  simp [bys, ByteArray.push]
theorem bys_ofInts_aux : ∀ (ns : List Int) (r : ByteArray), bys (ns.foldl (fun r n => r.push (UInt8.ofNat n.toNat)) r) = bys r ++ ns.map fun n => UInt8.ofNat n.toNat
  | [], r => by simp
  | n :: ns, r => by rw [List.foldl_cons, bys_ofInts_aux ns, bys_push]; simp
theorem bys_ofInts (ns : List Int) : bys (ofInts ns) = ns.map fun n => UInt8.ofNat n.toNat := by
  rw [ofInts, bys_ofInts_aux]; rfl
theorem bys_extract (s : ByteArray) (i j : Nat) : bys (s.extract i j) = ((bys s).take j).drop i := by
  simp only [bys, ByteArray.data_extract, Array.toList_extract, List.extract_eq_take_drop]
  rw [List.drop_take]
theorem put_eq (ns : List Int) (s : ByteArray) (n : Nat) : (ofInts ns = s.extract 0 n) ↔ (ns.map fun n => UInt8.ofNat n.toNat) = (bys s).take n := by
  rw [beq_iff, bys_ofInts, bys_extract, List.drop_zero]
theorem ofN {x : Int} {a : UInt8} (h0 : 0 ≤ x) (h1 : x < 256) : (UInt8.ofNat x.toNat = a) ↔ x = (a.toNat : Int) := by
  have hb := byte_lt a
  constructor
  · intro h; rw [← h, UInt8.toNat_ofNat']; omega
  · intro h
    apply UInt8.toNat_inj.1
    rw [UInt8.toNat_ofNat']; omega
theorem u8_eq {x : Int} (h0 : 0 ≤ x) (h1 : x < 256) : u8 x = x := by
  unfold u8 IntKind.wrap
  simp [IntKind.bits, IntKind.signed]
  omega
def C (n : Nat) (s : ByteArray) : Bool := mayF (getR n s) && decide (ofInts (putI (getR n s)) = s.extract 0 n)
theorem C_iff (n : Nat) (s : ByteArray) : C n s = true ↔ (mayF (getR n s) = true ∧ ((putI (getR n s)).map fun n => UInt8.ofNat n.toNat) = (bys s).take n) := by
  rw [C, Bool.and_eq_true, decide_eq_true_eq, put_eq]
theorem C1 {s : ByteArray} {a : UInt8} {l : List UInt8} (h : bys s = a :: l) : (C 1 s = true ↔ a.toNat < 128) ∧ getR 1 s = (a.toNat : Int) := by
  have hb := byte_lt a
  have hr : getR 1 s = (a.toNat : Int) := by rw [getR, h]; simp [gacc, gstep]
  refine ⟨?_, hr⟩
  rw [C_iff, hr, h, mayF_iff2, putI]
  by_cases h1 : (a.toNat : Int) ≤ 127
  · rw [if_pos h1, u8_eq (by omega) (by omega)]
    simp only [List.map_cons, List.map_nil, List.take_succ_cons, List.take_zero, List.cons.injEq, and_true, ofN (by omega : (0 : Int) ≤ a.toNat) (by omega)]
    omega
  · rw [if_neg h1, if_pos (by omega)]
    simp; omega
theorem C2 {s : ByteArray} {a b : UInt8} {l : List UInt8} (h : bys s = a :: b :: l) : (C 2 s = true ↔ (194 ≤ a.toNat ∧ a.toNat < 224) ∧ cont b = true) ∧ getR 2 s = ((64 * (a.toNat % 32) + b.toNat % 64 : Nat) : Int) := by
  have hb := byte_lt a
  have hb2 := byte_lt b
  have hr : getR 2 s = ((64 * (a.toNat % 32) + b.toNat % 64 : Nat) : Int) := by
    rw [getR, h]; simp only [List.take_succ_cons, List.take_zero, gacc, gstep, tabF]; simp
  refine ⟨?_, hr⟩
  rw [C_iff, hr, h, mayF_iff2, putI]
  simp only [cont, Bool.and_eq_true, decide_eq_true_eq]
  generalize hq : 64 * (a.toNat % 32) + b.toNat % 64 = q
  by_cases h1 : (q : Int) ≤ 127
  · rw [if_pos h1]
    simp only [List.map_cons, List.map_nil, List.take_succ_cons, List.take_zero, List.cons.injEq, reduceCtorEq, and_false, false_iff]
    omega
  · rw [if_neg h1, if_pos (by omega), u8_eq (by omega) (by omega), u8_eq (by omega) (by omega)]
    simp only [List.map_cons, List.map_nil, List.take_succ_cons, List.take_zero, List.cons.injEq, and_true, ofN (show (0 : Int) ≤ 192 + (q : Int) / 64 by omega) (by omega), ofN (show (0 : Int) ≤ 128 + (q : Int) % 64 by omega) (by omega)]
    omega
theorem C3 {s : ByteArray} {a b c : UInt8} {l : List UInt8} (h : bys s = a :: b :: c :: l) : (C 3 s = true ↔ (224 ≤ a.toNat ∧ a.toNat < 240) ∧ (cont b && cont c) = true ∧ 2048 ≤ 4096 * ((a.toNat : Int) - 224) + 64 * ((b.toNat : Int) - 128) + ((c.toNat : Int) - 128) ∧ ¬ (55296 ≤ 4096 * ((a.toNat : Int) - 224) + 64 * ((b.toNat : Int) - 128) + ((c.toNat : Int) - 128) ∧ 4096 * ((a.toNat : Int) - 224) + 64 * ((b.toNat : Int) - 128) + ((c.toNat : Int) - 128) ≤ 57343)) ∧ getR 3 s = ((4096 * (a.toNat % 16) + 64 * (b.toNat % 64) + c.toNat % 64 : Nat) : Int) := by
  have hb := byte_lt a
  have hb2 := byte_lt b
  have hb3 := byte_lt c
  have hr : getR 3 s = ((4096 * (a.toNat % 16) + 64 * (b.toNat % 64) + c.toNat % 64 : Nat) : Int) := by
    rw [getR, h]; simp only [List.take_succ_cons, List.take_zero, gacc, gstep, tabF]; simp; omega
  refine ⟨?_, hr⟩
  rw [C_iff, hr, h, mayF_iff2, putI]
  simp only [cont, Bool.and_eq_true, decide_eq_true_eq]
  generalize hq : 4096 * (a.toNat % 16) + 64 * (b.toNat % 64) + c.toNat % 64 = q
  by_cases h1 : (q : Int) ≤ 127
  · rw [if_pos h1]
    simp only [List.map_cons, List.map_nil, List.take_succ_cons, List.take_zero, List.cons.injEq, reduceCtorEq, and_false, false_iff]
    omega
  · by_cases h2 : (q : Int) ≤ 2047
    · rw [if_neg h1, if_pos h2]
      simp only [List.map_cons, List.map_nil, List.take_succ_cons, List.take_zero, List.cons.injEq, reduceCtorEq, and_false, false_iff]
      omega
    · rw [if_neg h1, if_neg h2, if_pos (by omega), u8_eq (by omega) (by omega), u8_eq (by omega) (by omega), u8_eq (by omega) (by omega)]
      simp only [List.map_cons, List.map_nil, List.take_succ_cons, List.take_zero, List.cons.injEq, and_true, ofN (show (0 : Int) ≤ 224 + (q : Int) / 4096 by omega) (by omega), ofN (show (0 : Int) ≤ 128 + (q : Int) / 64 % 64 by omega) (by omega), ofN (show (0 : Int) ≤ 128 + (q : Int) % 64 by omega) (by omega)]
      omega
theorem C4 {s : ByteArray} {a b c d : UInt8} {l : List UInt8} (h : bys s = a :: b :: c :: d :: l) : (C 4 s = true ↔ (240 ≤ a.toNat ∧ a.toNat < 245) ∧ (cont b && cont c && cont d) = true ∧ 65536 ≤ 262144 * ((a.toNat : Int) - 240) + 4096 * ((b.toNat : Int) - 128) + 64 * ((c.toNat : Int) - 128) + ((d.toNat : Int) - 128) ∧ 262144 * ((a.toNat : Int) - 240) + 4096 * ((b.toNat : Int) - 128) + 64 * ((c.toNat : Int) - 128) + ((d.toNat : Int) - 128) ≤ 1114111) ∧ getR 4 s = ((262144 * (a.toNat % 8) + 4096 * (b.toNat % 64) + 64 * (c.toNat % 64) + d.toNat % 64 : Nat) : Int) := by
  have hb := byte_lt a
  have hb2 := byte_lt b
  have hb3 := byte_lt c
  have hb4 := byte_lt d
  have hr : getR 4 s = ((262144 * (a.toNat % 8) + 4096 * (b.toNat % 64) + 64 * (c.toNat % 64) + d.toNat % 64 : Nat) : Int) := by
    rw [getR, h]; simp only [List.take_succ_cons, List.take_zero, gacc, gstep, tabF]; simp; omega
  refine ⟨?_, hr⟩
  rw [C_iff, hr, h, mayF_iff2, putI]
  simp only [cont, Bool.and_eq_true, decide_eq_true_eq]
  generalize hq : 262144 * (a.toNat % 8) + 4096 * (b.toNat % 64) + 64 * (c.toNat % 64) + d.toNat % 64 = q
  by_cases h1 : (q : Int) ≤ 127
  · rw [if_pos h1]
    simp only [List.map_cons, List.map_nil, List.take_succ_cons, List.take_zero, List.cons.injEq, reduceCtorEq, and_false, false_iff]
    omega
  · by_cases h2 : (q : Int) ≤ 2047
    · rw [if_neg h1, if_pos h2]
      simp only [List.map_cons, List.map_nil, List.take_succ_cons, List.take_zero, List.cons.injEq, reduceCtorEq, and_false, false_iff]
      omega
    · by_cases h3 : (q : Int) ≤ 65535
      · rw [if_neg h1, if_neg h2, if_pos h3]
        simp only [List.map_cons, List.map_nil, List.take_succ_cons, List.take_zero, List.cons.injEq, reduceCtorEq, and_false, false_iff]
        omega
      · rw [if_neg h1, if_neg h2, if_neg h3, u8_eq (by omega) (by omega), u8_eq (by omega) (by omega), u8_eq (by omega) (by omega), u8_eq (by omega) (by omega)]
        simp only [List.map_cons, List.map_nil, List.take_succ_cons, List.take_zero, List.cons.injEq, and_true, ofN (show (0 : Int) ≤ 240 + (q : Int) / 262144 by omega) (by omega), ofN (show (0 : Int) ≤ 128 + (q : Int) / 4096 % 64 by omega) (by omega), ofN (show (0 : Int) ≤ 128 + (q : Int) / 64 % 64 by omega) (by omega), ofN (show (0 : Int) ≤ 128 + (q : Int) % 64 by omega) (by omega)]
        omega
def gOf : Option (Int × Nat) → Int × Nat
  | some p => p
  | none => (0, 0)
theorem getFrom_step (f n : Nat) (s : ByteArray) : getFrom (f + 1) n s = if n ≤ 4 ∧ n ≤ s.size then if C n s = true then (getR n s, n) else getFrom f (n + 1) s else (0, 0) := by
  rw [getFrom, C]
  by_cases h : n ≤ 4 ∧ n ≤ s.size
  · rw [if_pos h, if_pos (by rw [Bool.and_eq_true, decide_eq_true_eq, decide_eq_true_eq]; omega)]
  · rw [if_neg h, if_neg (by rw [Bool.and_eq_true, decide_eq_true_eq, decide_eq_true_eq]; omega)]
theorem getF_dec (s : ByteArray) : getF s = gOf (dec (bys s)) := by
  have hsz := bsize s
  rw [getF]
  rcases hs : bys s with _ | ⟨a, l⟩
  · rw [hs] at hsz
    rw [getFrom_step, if_neg (by simp only [List.length_nil] at hsz; omega)]; rfl
  have hb := byte_lt a
  obtain ⟨i1, r1⟩ := C1 hs
  rw [getFrom_step, if_pos (by rw [hs] at hsz; simp only [List.length_cons] at hsz; omega)]
  simp only [dec]
  by_cases h1 : a.toNat < 128
  · rw [if_pos (i1.2 h1), if_pos h1, r1]; rfl
  rw [if_neg (fun h => h1 (i1.1 h)), if_neg h1, getFrom_step]
  rcases l with _ | ⟨b, l⟩
  · rw [if_neg (by rw [hs] at hsz; simp only [List.length_cons, List.length_nil] at hsz; omega)]
    split
    · rfl
    · split
      · rfl
      · split <;> rfl
  rw [if_pos (by rw [hs] at hsz; simp only [List.length_cons] at hsz; omega)]
  obtain ⟨i2, r2⟩ := C2 hs
  by_cases h2 : 194 ≤ a.toNat ∧ a.toNat < 224
  · rw [if_pos h2]
    by_cases hc : cont b = true
    · have hc' := hc
      simp only [cont, Bool.and_eq_true, decide_eq_true_eq] at hc'
      rw [if_pos (i2.2 ⟨h2, hc⟩), r2]
      simp only []
      rw [if_pos hc]
      simp only [gOf, Prod.mk.injEq, and_true]
      omega
    · rw [if_neg (fun h => hc (i2.1 h).2)]
      simp only []
      rw [if_neg hc, getFrom_step]
      split
      · rename_i h3
        rcases l with _ | ⟨c, l⟩
        · rw [hs] at hsz; simp only [List.length_cons, List.length_nil] at hsz; omega
        rw [if_neg (fun h => by have := ((C3 hs).1.1 h).1; omega), getFrom_step]
        split
        · rename_i h4
          rcases l with _ | ⟨d, l⟩
          · rw [hs] at hsz; simp only [List.length_cons, List.length_nil] at hsz; omega
          rw [if_neg (fun h => by have := ((C4 hs).1.1 h).1; omega)]; rfl
        · rfl
      · rfl
  rw [if_neg (fun h => h2 (i2.1 h).1), if_neg h2, getFrom_step]
  rcases l with _ | ⟨c, l⟩
  · rw [if_neg (by rw [hs] at hsz; simp only [List.length_cons, List.length_nil] at hsz; omega)]
    split
    · rfl
    · split <;> rfl
  rw [if_pos (by rw [hs] at hsz; simp only [List.length_cons] at hsz; omega)]
  obtain ⟨i3, r3⟩ := C3 hs
  by_cases h3 : 224 ≤ a.toNat ∧ a.toNat < 240
  · rw [if_pos h3]
    simp only []
    split
    · rename_i hg0
      have hg := (i3.1 hg0).2
      rw [if_pos hg, r3]
      have hc' := hg.1
      simp only [cont, Bool.and_eq_true, decide_eq_true_eq] at hc'
      simp only [gOf, Prod.mk.injEq, and_true]
      omega
    · rename_i hg
      rw [if_neg (fun h => hg (i3.2 ⟨h3, h⟩)), getFrom_step]
      split
      · rcases l with _ | ⟨d, l⟩
        · rw [hs] at hsz; simp only [List.length_cons, List.length_nil] at hsz; omega
        rw [if_neg (fun h => by have := ((C4 hs).1.1 h).1; omega)]; rfl
      · rfl
  rw [if_neg (fun h => h3 (i3.1 h).1), if_neg h3, getFrom_step]
  rcases l with _ | ⟨d, l⟩
  · rw [if_neg (by rw [hs] at hsz; simp only [List.length_cons, List.length_nil] at hsz; omega)]
    split <;> rfl
  rw [if_pos (by rw [hs] at hsz; simp only [List.length_cons] at hsz; omega)]
  obtain ⟨i4, r4⟩ := C4 hs
  by_cases h4 : 240 ≤ a.toNat ∧ a.toNat < 245
  · rw [if_pos h4]
    simp only []
    split
    · rename_i hg0
      have hg := (i4.1 hg0).2
      rw [if_pos hg, r4]
      have hc' := hg.1
      simp only [cont, Bool.and_eq_true, decide_eq_true_eq] at hc'
      simp only [gOf, Prod.mk.injEq, and_true]
      omega
    · rename_i hg
      rw [if_neg (fun h => hg (i4.2 ⟨h4, h⟩))]; rfl
  rw [if_neg (fun h => h4 (i4.1 h).1), if_neg h4]; rfl
theorem dec_take (l : List UInt8) : dec (l.take 4) = dec l := by
  rcases l with _ | ⟨a, _ | ⟨b, _ | ⟨c, _ | ⟨d, l⟩⟩⟩⟩ <;> rfl
theorem dec_pos {l : List UInt8} {p : Int × Nat} (h : dec l = some p) : 1 ≤ p.2 ∧ p.2 ≤ l.length ∧ (p.2 : Int) = sizeF p.1 ∧ mayF p.1 = true := by
  rcases l with _ | ⟨a, l⟩
  · cases h
  have hb := byte_lt a
  simp only [dec] at h
  split at h
  · injection h with h; subst h
    rw [mayF_iff2, sizeF, if_pos (by simp only []; omega)]; simp only [List.length_cons]; omega
  · split at h
    · rcases l with _ | ⟨b, l⟩
      · cases h
      simp only [] at h
      split at h
      · rename_i hc
        simp only [cont, Bool.and_eq_true, decide_eq_true_eq] at hc
        injection h with h; subst h
        rw [mayF_iff2, sizeF, if_neg (by simp only []; omega), if_pos (by simp only []; omega)]; simp only [List.length_cons]; omega
      · cases h
    · split at h
      · rcases l with _ | ⟨b, _ | ⟨c, l⟩⟩
        · cases h
        · cases h
        simp only [] at h
        split at h
        · rename_i hc
          simp only [cont, Bool.and_eq_true, decide_eq_true_eq] at hc
          injection h with h; subst h
          rw [mayF_iff2, sizeF, if_neg (by simp only []; omega), if_neg (by simp only []; omega), if_pos (by simp only []; omega)]; simp only [List.length_cons]; omega
        · cases h
      · split at h
        · rcases l with _ | ⟨b, _ | ⟨c, _ | ⟨d, l⟩⟩⟩
          · cases h
          · cases h
          · cases h
          simp only [] at h
          split at h
          · rename_i hc
            simp only [cont, Bool.and_eq_true, decide_eq_true_eq] at hc
            injection h with h; subst h
            rw [mayF_iff2, sizeF, if_neg (by simp only []; omega), if_neg (by simp only []; omega), if_neg (by simp only []; omega)]; simp only [List.length_cons]; omega
          · cases h
        · cases h
end Go.AM.Tryd
end
section
set_option linter.unusedVariables false
set_option linter.unusedSimpArgs false
set_option maxRecDepth 100000
namespace Go.AM.Tryd
open Go Go.AM Go.AM.D
theorem getF_at (s : ByteArray) (k : Nat) (h : k ≤ s.size) : getF (s.extract k (min s.size (k + 4))) = gOf (dec ((bys s).drop k)) := by
  rw [getF_dec, bys_extract]
  congr 1
  have hsz := bsize s
  rw [← dec_take ((bys s).drop k)]
  congr 1
  rcases Nat.le_total s.size (k + 4) with c | c
  · rw [Nat.min_eq_left c, List.take_of_length_le (by omega), List.take_of_length_le (by rw [List.length_drop]; omega)]
  · rw [Nat.min_eq_right c, List.drop_take, Nat.add_sub_cancel_left]
theorem ugetF_at (s : ByteArray) (k : Nat) : ugetF (s.extract k s.size) = uOf (dec ((bys s).drop k)) := by
  rw [ugetF_dec, bys_extract, List.take_of_length_le (by rw [bsize]; exact Nat.le_refl _)]
def eU (k : Nat) (l : List (Nat × Int)) : Int := match l.getLast? with
  | none => k
  | some p => (p.1 : Int) + sizeF p.2
theorem runes_end (s : ByteArray) : ∀ (n k : Nat) (acc : List Rune), s.size - k ≤ n → k ≤ s.size → (((runesG s k acc).2 : Nat) : Int) = eU k (urunes s k) := by
  intro n
  induction n with
  | zero =>
    intro k acc hn hk
    rw [runesG_end (by omega), urunes_end (by omega)]; rfl
  | succ n ih =>
    intro k acc hn hk
    by_cases hks : k < s.size
    · have hg := getF_at s k hk
      have hu := ugetF_at s k
      cases hd : dec ((bys s).drop k) with
      | none =>
        rw [hd] at hg hu
        rw [runesG_stop hks (by rw [hg]; rfl), urunes_bad (by rw [hu]; simp [uOf])]; rfl
      | some p =>
        rw [hd] at hg hu
        have hp := dec_pos hd
        rw [List.length_drop, bsize] at hp
        have e1 : (getF (s.extract k (min s.size (k + 4)))).2 = p.2 := by rw [hg]; rfl
        have e2 : (ugetF (s.extract k s.size)).1 = p.1 := by rw [hu]; rfl
        have e3 : (ugetF (s.extract k s.size)).2.1.toNat = p.2 := by rw [hu]; simp [uOf]
        rw [runesG_step hks (by omega), urunes_step hks (by rw [hu]; rfl), e1, e2, e3, ih (k + p.2) _ (by omega) (by omega)]
        unfold eU
        rw [List.getLast?_cons]
        cases hq : (urunes s (k + p.2)).getLast? with
        | none => simp only [Option.getD_none]; omega
        | some q => rfl
    · rw [runesG_end hks, urunes_end hks]; rfl
theorem endN_eU (l : List (Nat × Int)) : endN l l.length = eU 0 l := by
  unfold eU
  rcases Nat.eq_zero_or_pos l.length with h | h
  · have := List.eq_nil_of_length_eq_zero h
    subst this; rfl
  · obtain ⟨n, hn⟩ : ∃ n, l.length = n + 1 := ⟨l.length - 1, by omega⟩
    rw [hn, endN, List.getLast?_eq_getElem?, hn, Nat.add_sub_cancel]
    cases hq : l[n]? with
    | none => rw [List.getElem?_eq_none_iff] at hq; omega
    | some p => rfl
theorem valid_eq (s : ByteArray) : validU s = validR s := by
  rw [validU, validR, endN_eU, runes_end s s.size 0 [] (by omega) (by omega)]
theorem val_eq (s : ByteArray) : valU s = valR s := by rw [valU, valR, valid_eq]
theorem bad_low : ∀ c : Fin 128, badR ((c.val : Nat) : Int) = iriB ((c.val : Nat) : Int) := by decide +kernel
theorem iri_high (b : UInt8) (h : 128 ≤ b.toNat) : iriB (b.toNat : Int) = false := by
  have hall : ∀ c : Fin 256, 128 ≤ c.val → iriB ((c.val : Nat) : Int) = false := by decide +kernel
  exact hall ⟨b.toNat, byte_lt b⟩ h
theorem bad_high {r : Int} (h : 128 ≤ r) : badR r = false := by
  simp only [badR, Bool.or_eq_false_iff, Bool.and_eq_false_iff, decide_eq_false_iff_not]; omega
theorem iriL_high {b : UInt8} {l : List UInt8} (h : cont b = true) : iriL (b :: l) = iriL l := by
  simp only [cont, Bool.and_eq_true, decide_eq_true_eq] at h
  rw [iriL, iri_high b h.1, if_neg (by simp)]
theorem iri_dec {l : List UInt8} {p : Int × Nat} (h : dec l = some p) : iriL l = if badR p.1 = true then false else iriL (l.drop p.2) := by
  rcases l with _ | ⟨a, l⟩
  · cases h
  have hb := byte_lt a
  simp only [dec] at h
  split at h
  · rename_i h1
    injection h with h; subst h
    rw [iriL, show badR (a.toNat : Int) = iriB (a.toNat : Int) from bad_low ⟨a.toNat, h1⟩]; rfl
  · rename_i h1
    have ha : iriL (a :: l) = iriL l := by rw [iriL, iri_high a (by omega), if_neg (by simp)]
    split at h
    · rcases l with _ | ⟨b, l⟩
      · cases h
      simp only [] at h
      split at h
      · rename_i hc
        have hc' := hc
        simp only [cont, Bool.and_eq_true, decide_eq_true_eq] at hc'
        injection h with h; subst h
        rw [ha, iriL_high hc, bad_high (by simp only []; omega), if_neg (by simp)]; rfl
      · cases h
    · split at h
      · rcases l with _ | ⟨b, _ | ⟨c, l⟩⟩
        · cases h
        · cases h
        simp only [] at h
        split at h
        · rename_i hc
          have hc1 := hc.1
          rw [Bool.and_eq_true] at hc1
          injection h with h; subst h
          rw [ha, iriL_high hc1.1, iriL_high hc1.2, bad_high (by simp only []; omega), if_neg (by simp)]; rfl
        · cases h
      · split at h
        · rcases l with _ | ⟨b, _ | ⟨c, _ | ⟨d, l⟩⟩⟩
          · cases h
          · cases h
          · cases h
          simp only [] at h
          split at h
          · rename_i hc
            have hc1 := hc.1
            rw [Bool.and_eq_true, Bool.and_eq_true] at hc1
            injection h with h; subst h
            rw [ha, iriL_high hc1.1.1, iriL_high hc1.1.2, iriL_high hc1.2, bad_high (by simp only []; omega), if_neg (by simp)]; rfl
          · cases h
        · cases h
theorem iri_runes (s : ByteArray) : ∀ (n k : Nat), s.size - k ≤ n → k ≤ s.size → (runesG s k []).2 = s.size → iriUL (urunes s k) = iriL ((bys s).drop k) := by
  have hsz := bsize s
  intro n
  induction n with
  | zero =>
    intro k hn hk _
    rw [urunes_end (by omega), List.drop_of_length_le (by omega)]; rfl
  | succ n ih =>
    intro k hn hk hv
    by_cases hks : k < s.size
    · have hg := getF_at s k hk
      have hu := ugetF_at s k
      cases hd : dec ((bys s).drop k) with
      | none =>
        rw [hd] at hg
        rw [runesG_stop hks (by rw [hg]; rfl)] at hv
        simp only [] at hv; omega
      | some p =>
        rw [hd] at hg hu
        have hp := dec_pos hd
        rw [List.length_drop, bsize] at hp
        have e1 : (getF (s.extract k (min s.size (k + 4)))).2 = p.2 := by rw [hg]; rfl
        have e2 : (ugetF (s.extract k s.size)).1 = p.1 := by rw [hu]; rfl
        have e3 : (ugetF (s.extract k s.size)).2.1.toNat = p.2 := by rw [hu]; simp [uOf]
        have h2 := runes_end s n (k + p.2) [] (by omega) (by omega)
        rw [runesG_step hks (by omega), e1] at hv
        have h3 := runes_end s n (k + p.2) ([] ++ [⟨k, (getF (s.extract k (min s.size (k + 4)))).1⟩]) (by omega) (by omega)
        rw [urunes_step hks (by rw [hu]; rfl), e2, e3, iriUL, iri_dec hd, List.drop_drop]
        simp only []
        rw [ih (k + p.2) (by omega) (by omega) (by omega)]
    · rw [urunes_end hks, List.drop_of_length_le (by omega)]; rfl
theorem iri_eq (s : ByteArray) : iriU s = iriR s := by
  rw [iriU, iriR, valid_eq]
  split
  · rfl
  · rename_i h
    simp only [Bool.or_eq_true, not_or, Bool.not_eq_true', Bool.not_eq_false] at h
    have hv := h.2
    rw [validR, decide_eq_true_eq] at hv
    have := iri_runes s s.size 0 (by omega) (by omega) (by omega)
    rw [this]; rfl
theorem blankB_pos (c : Int) {i : Int} (h : i ≠ 0) : blankB i c = (!letterF c && !digitF c) := by
  simp [blankB, h]
theorem blankL_pos : ∀ (l : List UInt8) (i : Int), 0 < i → blankL i l = wordL l
  | [], i, _ => rfl
  | x :: l, i, h => by
    rw [blankL, wordL, blankB_pos _ (by omega), blankL_pos l (i + 1) (by omega)]
theorem blank_eq (s : ByteArray) : blankF s = wordF s 64 := by
  have hsz := bsize s
  rw [blankF, wordF]
  rcases hs : bys s with _ | ⟨x, l⟩
  · rw [hs] at hsz
    simp only [List.length_nil] at hsz
    have h1 : decide ((s.size : Int) ≥ 1) = false := decide_eq_false (by omega)
    have h2 : decide ((s.size : Int) < 1) = true := decide_eq_true (by omega)
    simp [h1, h2]
  · rw [hs] at hsz
    simp only [List.length_cons] at hsz
    have h1 : decide ((s.size : Int) ≥ 1) = true := decide_eq_true (by omega)
    have h2 : decide ((s.size : Int) < 1) = false := decide_eq_false (by omega)
    have h3 : decide ((s.size : Int) > 64) = !decide ((s.size : Int) ≤ 64) := by
      by_cases h : (s.size : Int) ≤ 64
      · simp [h]
      · simp [h]; omega
    rw [blankL, wordL, blankL_pos l (0 + 1) (by omega), h1, h2, h3, show head8 (x :: l) = x from rfl]
    simp only [blankB, decide_true, Bool.true_or, Bool.and_true, Bool.false_or]
    cases letterF (x.toNat : Int) <;> cases decide ((s.size : Int) ≤ 64) <;> simp
theorem nameB_eq (i c : Int) : nameB i c = blankB i c := by
  have e : ((decide (c < 65) || decide (c > 90)) && (decide (c < 97) || decide (c > 122))) = !letterF c := by
    rw [Bool.eq_iff_iff]
    simp only [letterF, Bool.and_eq_true, Bool.or_eq_true, decide_eq_true_eq, Bool.not_eq_true', Bool.or_eq_false_iff, Bool.and_eq_false_iff, decide_eq_false_iff_not]; omega
  have e2 : ((decide (i = 0) || decide (c < 48)) || decide (c > 57)) = (decide (i = 0) || !digitF c) := by
    rw [Bool.eq_iff_iff]
    simp only [digitF, Bool.and_eq_true, Bool.or_eq_true, decide_eq_true_eq, Bool.not_eq_true', Bool.and_eq_false_iff, decide_eq_false_iff_not]; omega
  rw [nameB, blankB, e, e2]
theorem nameL_eq : ∀ (l : List UInt8) (i : Int), nameL i l = blankL i l
  | [], i => rfl
  | x :: l, i => by rw [nameL, blankL, nameB_eq, nameL_eq l (i + 1)]
theorem name_eq (s : ByteArray) : nameF s = wordF s 32 := by
  have hsz := bsize s
  rw [nameF, wordF, nameL_eq]
  rcases hs : bys s with _ | ⟨x, l⟩
  · rw [hs] at hsz
    simp only [List.length_nil] at hsz
    have h1 : decide ((s.size : Int) ≥ 1) = false := decide_eq_false (by omega)
    have h2 : decide ((s.size : Int) < 1) = true := decide_eq_true (by omega)
    simp [h1, h2]
  · rw [hs] at hsz
    simp only [List.length_cons] at hsz
    have h1 : decide ((s.size : Int) ≥ 1) = true := decide_eq_true (by omega)
    have h2 : decide ((s.size : Int) < 1) = false := decide_eq_false (by omega)
    have h3 : decide ((s.size : Int) > 32) = !decide ((s.size : Int) ≤ 32) := by
      by_cases h : (s.size : Int) ≤ 32
      · simp [h]
      · simp [h]; omega
    rw [blankL, wordL, blankL_pos l (0 + 1) (by omega), h1, h2, h3, show head8 (x :: l) = x from rfl]
    simp only [blankB, decide_true, Bool.true_or, Bool.and_true, Bool.false_or]
    cases letterF (x.toNat : Int) <;> cases decide ((s.size : Int) ≤ 32) <;> simp
/-! Tags -/
def splitL : List UInt8 → List (List UInt8)
  | [] => [[]]
  | x :: l => if x = 45 then [] :: splitL l else match splitL l with
    | p :: ps => (x :: p) :: ps
    | [] => [[x]]
theorem splitL_cons (l : List UInt8) : ∃ p ps, splitL l = p :: ps := by
  cases l with
  | nil => exact ⟨[], [], rfl⟩
  | cons x l =>
    rw [splitL]
    split
    · exact ⟨_, _, rfl⟩
    · split
      · exact ⟨_, _, rfl⟩
      · exact ⟨_, _, rfl⟩
theorem splitL_none : ∀ {l : List UInt8}, l.count 45 = 0 → splitL l = [l]
  | [], _ => rfl
  | x :: l, h => by
    rw [List.count_cons] at h
    have hx : x ≠ 45 := by intro e; subst e; simp at h
    rw [splitL, if_neg hx, splitL_none (by omega)]
theorem splitL_app : ∀ {p q : List UInt8}, p.count 45 = 0 → splitL (p ++ 45 :: q) = p :: splitL q
  | [], q, _ => by simp [splitL]
  | x :: p, q, h => by
    rw [List.count_cons] at h
    have hx : x ≠ 45 := by intro e; subst e; simp at h
    rw [List.cons_append, splitL, if_neg hx, splitL_app (by omega)]
theorem ix_spec : ∀ (l : List UInt8), (Lib.indexByte l 45 = -1 ∧ l.count 45 = 0) ∨ ∃ n : Nat, Lib.indexByte l 45 = n ∧ n < l.length ∧ l = l.take n ++ 45 :: l.drop (n + 1) ∧ (l.take n).count 45 = 0
  | [] => .inl ⟨rfl, rfl⟩
  | x :: l => by
    rw [Lib.indexByte]
    by_cases hx : x = 45
    · subst hx
      exact .inr ⟨0, by simp, by simp, by simp, by simp⟩
    · have hx' : (x == (45 : UInt8)) = false := by simpa using hx
      rw [if_neg (by rw [hx']; simp)]
      rcases ix_spec l with ⟨h1, h2⟩ | ⟨n, h1, h2, h3, h4⟩
      · left
        rw [h1]
        exact ⟨rfl, by rw [List.count_cons, h2, hx']; rfl⟩
      · right
        refine ⟨n + 1, ?_, by simp only [List.length_cons]; omega, ?_, ?_⟩
        · rw [h1, if_neg (by first | (simp; done) | (simp; omega))]; omega
        · rw [List.take_succ_cons, List.drop_succ_cons, List.cons_append, ← h3]
        · rw [List.take_succ_cons, List.count_cons, h4, hx']; rfl
theorem ixD_eq (s : ByteArray) : ixD s = Lib.indexByte (bys s) 45 := rfl
theorem pieces_split : ∀ (k : Nat) (s : ByteArray), (bys s).count 45 = k → (piecesG k s).map bys = splitL (bys s)
  | 0, s, h => by rw [piecesG, splitL_none h]; rfl
  | k + 1, s, h => by
    have hsz := bsize s
    rw [piecesG]
    rcases ix_spec (bys s) with ⟨h1, h2⟩ | ⟨n, h1, h2, h3, h4⟩
    · omega
    · rw [if_neg (by rw [ixD_eq, h1]; omega), List.map_cons, ixD_eq, h1, Int.toNat_natCast, bys_extract, List.drop_zero]
      have hq : bys (s.extract (n + 1) s.size) = (bys s).drop (n + 1) := by rw [bys_extract, List.take_of_length_le (by omega)]
      have hc : ((bys s).drop (n + 1)).count 45 = k := by
        rw [h3, List.count_append, h4, List.count_cons] at h
        simp at h; exact h
      rw [pieces_split k _ (by rw [hq]; exact hc), hq]
      conv => rhs; rw [h3]
      rw [splitL_app h4]
theorem splitD_eq (s : ByteArray) : (splitD s).map bys = splitL (bys s) := by
  have hsz := bsize s
  have hc : (bys s).count 45 ≤ (bys s).length := List.count_le_length
  have e : min (cntB s + 1) (s.size + 1) - 1 = (bys s).count 45 := by
    rw [show cntB s = (bys s).count 45 from rfl]; omega
  rw [splitD, e]
  exact pieces_split _ s rfl
def okP1 (first : Bool) : List UInt8 → Bool
  | [] => true
  | x :: l => if tagB first (x.toNat : Int) = true then false else okP1 first l
def okPs : List (List UInt8) → Bool
  | [] => true
  | p :: ps => if p = [] then false else if okP1 false p = true then okPs ps else false
theorem tagUB_eq (i : Int) (c : Int) : tagUB i c = tagB (decide (i = 0)) c := by
  have e : (decide (c < 97) || decide (c > 122)) = !(decide (c ≥ 97) && decide (c ≤ 122)) := by
    rw [Bool.eq_iff_iff]
    simp only [Bool.and_eq_true, Bool.or_eq_true, decide_eq_true_eq, Bool.not_eq_true', Bool.and_eq_false_iff, decide_eq_false_iff_not]; omega
  rw [tagUB, tagB, e]
theorem partU_eq (i : Int) : ∀ l : List UInt8, partU i l = okP1 (decide (i = 0)) l
  | [] => rfl
  | x :: l => by rw [partU, okP1, tagUB_eq, partU_eq i l]
theorem bys_nil (p : ByteArray) : (p = ⟨#[]⟩) ↔ bys p = [] := beq_iff
theorem partsU_pos : ∀ (l : List ByteArray) (i : Int), 0 < i → partsU i l = okPs (l.map bys)
  | [], i, _ => rfl
  | p :: l, i, h => by
    rw [partsU, List.map_cons, okPs, partU_eq, partsU_pos l (i + 1) (by omega), show decide (i = 0) = false from decide_eq_false (by omega)]
    by_cases hp : p = ⟨#[]⟩
    · rw [if_pos hp, if_pos ((bys_nil p).1 hp)]
    · rw [if_neg hp, if_neg (fun h => hp ((bys_nil p).2 h))]
def tagS : Bool → Bool → List UInt8 → Bool
  | pe, _, [] => !pe
  | pe, first, x :: l => if x = 45 then (if pe = true then false else tagS true false l) else if tagB first (x.toNat : Int) = true then false else tagS false first l
theorem tagS_split : ∀ (l : List UInt8) (pe first : Bool), tagS pe first l = match splitL l with
    | p :: ps => (!(pe && decide (p = []))) && okP1 first p && okPs ps
    | [] => false
  | [], pe, first => by cases pe <;> rfl
  | x :: l, pe, first => by
    rw [tagS, splitL]
    obtain ⟨p, ps, hp⟩ := splitL_cons l
    by_cases hx : x = 45
    · rw [if_pos hx, if_pos hx, tagS_split l true false, hp]
      cases pe with
      | true => rfl
      | false =>
        simp only [okPs, okP1]
        by_cases hpn : p = []
        · simp [hpn]
        · simp only [hpn, if_false, decide_false, Bool.and_false, Bool.not_false, Bool.true_and, Bool.false_and]
          cases okP1 false p <;> simp
    · rw [if_neg hx, if_neg hx, tagS_split l false first, hp]
      simp only [okP1]
      cases tagB first (x.toNat : Int) <;> simp
theorem tagU_tagS (s : ByteArray) : tagU s = (tagS true true (bys s) && decide ((s.size : Int) ≤ 35)) := by
  have h := splitD_eq s
  rw [tagU, tagS_split]
  obtain ⟨p, ps, hp⟩ := splitL_cons (bys s)
  rw [hp] at h ⊢
  rcases hs : splitD s with _ | ⟨q, qs⟩
  · rw [hs] at h; cases h
  · rw [hs, List.map_cons, List.cons.injEq] at h
    rw [partsU, partU_eq, partsU_pos qs (0 + 1) (by omega), h.2, h.1]
    by_cases hq : q = ⟨#[]⟩
    · have hpn : p = [] := by rw [← h.1]; exact (bys_nil q).1 hq
      rw [if_pos hq]; simp [hpn]
    · have hpn : p ≠ [] := fun e => hq ((bys_nil q).2 (h.1.trans e))
      rw [if_neg hq]
      simp only [hpn, decide_false, Bool.and_false, Bool.not_false, Bool.true_and, decide_true]
      cases okP1 true p <;> cases okPs ps <;> simp
theorem tagS_tagL (all : List UInt8) : ∀ (l : List UInt8) (i : Nat) (first : Bool), 0 < i → all.drop i = l → i ≤ all.length → tagS (decide (all.getD (i - 1) 0 = 45)) first l = (tagL all i first l && decide (all.getD (all.length - 1) 0 ≠ 45))
  | [], i, first, h0, hd, hl => by
    have hlen := congrArg List.length hd
    rw [List.length_drop, List.length_nil] at hlen
    rw [tagS, tagL, show i - 1 = all.length - 1 by omega]
    simp
  | x :: l, i, first, h0, hd, hl => by
    have hlen := congrArg List.length hd
    rw [List.length_drop, List.length_cons] at hlen
    have hx : all.getD i 0 = x := by
      have : all[i]? = some x := by rw [← List.head?_drop, hd]; rfl
      rw [List.getD_eq_getElem?_getD, this]; rfl
    have hd' : all.drop (i + 1) = l := by rw [← List.tail_drop, hd]; rfl
    have ih := fun f => tagS_tagL all l (i + 1) f (by omega) hd' (by omega)
    rw [Nat.add_sub_cancel, hx] at ih
    have e45 : (decide (((x : UInt8).toNat : Int) = 45) = true) ↔ x = 45 := by
      rw [decide_eq_true_eq]
      constructor
      · intro h; apply UInt8.toNat_inj.1; show x.toNat = 45; omega
      · intro h; subst h; rfl
    have e45' : (decide (((all.getD (i - 1) 0 : UInt8).toNat : Int) = 45) = true) ↔ all.getD (i - 1) 0 = 45 := by
      rw [decide_eq_true_eq]
      constructor
      · intro h; apply UInt8.toNat_inj.1; show (all.getD (i - 1) 0).toNat = 45; omega
      · intro h; rw [h]; rfl
    rw [tagS, tagL]
    by_cases hx45 : x = 45
    · rw [if_pos hx45, if_pos (e45.2 hx45)]
      by_cases hp : all.getD (i - 1) 0 = 45
      · rw [if_pos (decide_eq_true hp), if_pos (e45'.2 hp)]; simp
      · rw [if_neg (by simpa using hp), if_neg (fun h => hp (e45'.1 h)), ← ih false, show decide (x = 45) = true from decide_eq_true hx45]
    · rw [if_neg hx45, if_neg (fun h => hx45 (e45.1 h))]
      cases tagB first (x.toNat : Int) with
      | true => simp
      | false =>
        simp only [Bool.false_eq_true, if_false]
        rw [← ih first, show decide (x = 45) = false from decide_eq_false hx45]
theorem dash_iff (x : UInt8) : ((x.toNat : Int) = 45) ↔ x = 45 := by
  constructor
  · intro h; apply UInt8.toNat_inj.1; show x.toNat = 45; omega
  · intro h; subst h; rfl
theorem tag_eq (s : ByteArray) : tagU s = tagR s := by
  have hsz := bsize s
  rw [tagU_tagS, tagR]
  rcases hs : bys s with _ | ⟨x, l⟩
  · rw [hs] at hsz
    simp only [List.length_nil] at hsz
    rw [if_pos (by simp; omega)]; rfl
  · rw [hs] at hsz
    simp only [List.length_cons] at hsz
    rw [show head8 (x :: l) = x from rfl]
    by_cases h35 : (s.size : Int) ≤ 35
    · by_cases hx : x = 45
      · rw [if_pos (by simp [dash_iff, hx]), tagS, if_pos hx]; simp
      · have hl := tagS_tagL (x :: l) l 1 true (by omega) rfl (by simp)
        rw [show (x :: l).getD (1 - 1) 0 = x from rfl, show decide (x = 45) = false from decide_eq_false hx] at hl
        rw [show (x :: l).length - 1 = s.size - 1 by simp only [List.length_cons]; omega] at hl
        have hx' : ¬ decide ((x.toNat : Int) = 45) = true := by rw [decide_eq_true_eq, dash_iff]; exact hx
        rw [tagS, if_neg hx]
        have hT : tagL (x :: l) 0 true (x :: l) = if tagB true (x.toNat : Int) = true then false else tagL (x :: l) 1 true l := by rw [tagL, if_neg hx']
        have d1 : decide ((s.size : Int) < 1) = false := decide_eq_false (by omega)
        have d2 : decide ((s.size : Int) > 35) = false := decide_eq_false (by omega)
        have d3 : decide ((x.toNat : Int) = 45) = false := by rw [decide_eq_false_iff_not, dash_iff]; exact hx
        have d4 : decide ((((x :: l).getD (s.size - 1) 0 : UInt8).toNat : Int) = 45) = decide ((x :: l).getD (s.size - 1) 0 = 45) := by rw [Bool.eq_iff_iff, decide_eq_true_eq, decide_eq_true_eq, dash_iff]
        rw [d1, d2, d3, d4, hT, hl, show decide ((s.size : Int) ≤ 35) = true from decide_eq_true h35]
        by_cases hlast : (x :: l).getD (s.size - 1) 0 = 45
        · rw [show decide ((x :: l).getD (s.size - 1) 0 ≠ 45) = false from decide_eq_false (fun h => h hlast), show decide ((x :: l).getD (s.size - 1) 0 = 45) = true from decide_eq_true hlast]
          cases tagB true (x.toNat : Int) <;> simp
        · rw [show decide ((x :: l).getD (s.size - 1) 0 ≠ 45) = true from decide_eq_true hlast, show decide ((x :: l).getD (s.size - 1) 0 = 45) = false from decide_eq_false hlast]
          cases tagB true (x.toNat : Int) <;> simp
    · rw [if_pos (by simp only [Bool.or_eq_true, decide_eq_true_eq]; exact .inl (.inl (.inr (by omega))))]
      simp [h35]
theorem term_eq (t : Term) : termU t = termR t := by
  rw [termU, termR]
  simp only [k1F, k2F, k3F, k4F, k5F, iri_eq, blank_eq, val_eq, tag_eq]
end Go.AM.Tryd
end
section
set_option linter.unusedVariables false
set_option linter.unusedSimpArgs false
set_option maxRecDepth 100000
namespace Go.AM.Tryd
open Go Go.AM Go.AM.D
theorem slot_eq (s : Slot) : slotU s = slotR s := by
  rw [slotU, slotR, term_eq, name_eq]
  by_cases h : s.var = ⟨#[]⟩
  · rw [if_pos h, if_neg (fun e => e h)]
  · rw [if_neg h, if_pos h, Bool.and_comm]
theorem pat_eq (p : Pat) : patU p = patR p := by rw [patU, patR, slot_eq, slot_eq, slot_eq]
theorem part_eq (l : Lt) : partU2 l = partR l := by
  rw [partU2, partR]
  simp only [Bool.or_eq_true, decide_eq_true_eq, pat_eq, slot_eq]
  by_cases h : l.kind = 1 ∨ l.kind = 2
  · rw [if_pos h, if_pos h]
  · rw [if_neg h, if_neg h]
    by_cases h2 : l.kind = 3 ∨ l.kind = 4
    · rw [if_pos h2]
      have : (decide (l.kind = 3) || decide (l.kind = 4)) = true := by simpa using h2
      rw [this, Bool.true_and]
    · rw [if_neg h2]
      have : (decide (l.kind = 3) || decide (l.kind = 4)) = false := by simpa using h2
      rw [this]; rfl
theorem bodyR_eq (q : Bool) : ∀ b : List Lt, bodyR q b = (q && !(b.any fun l => !partR l))
  | [] => by simp [bodyR]
  | x :: b => by
    rw [bodyR, bodyR_eq q b, List.any_cons]
    cases partR x <;> simp
theorem may_eq (r : Rule) : mayU r = mayR r := by
  rw [mayU, mayR, bodyR_eq]
  simp only [pat_eq, part_eq]
  by_cases h : (r.body.length : Int) > 64
  · rw [if_pos h, show decide ((r.body.length : Int) ≤ 64) = false from decide_eq_false (by omega)]; simp
  · rw [if_neg h, show decide ((r.body.length : Int) ≤ 64) = true from decide_eq_true (by omega)]; simp
theorem inF_iff (s : ByteArray) : ∀ l : List ByteArray, inF s l = true ↔ s ∈ l
  | [] => by simp [inF]
  | x :: l => by
    rw [inF]
    by_cases h : x = s
    · subst h; simp
    · have h' : ¬ s = x := fun e => h e.symm
      rw [if_neg h, inF_iff s l]
      constructor
      · intro k; exact List.mem_cons_of_mem _ k
      · intro k; exact (List.mem_cons.1 k).resolve_left h'
theorem notIn (s : ByteArray) (l : List ByteArray) : (!inF s l) = true ↔ s ∉ l := by
  rw [Bool.not_eq_true', ← Bool.not_eq_true, inF_iff]
theorem varNotIn (s : ByteArray) (l : List ByteArray) : (decide (s ≠ ⟨#[]⟩) && !inF s l) = true ↔ (s ≠ ⟨#[]⟩ ∧ s ∉ l) := by
  rw [Bool.and_eq_true, decide_eq_true_eq, notIn]
open Classical in
theorem checkUL_eq (g : List ByteArray) : ∀ l : List (Int × Slot), checkUL g l = if (∃ p ∈ l, p.2.var ≠ ⟨#[]⟩ ∧ p.2.var ∉ g) then 5 else 0
  | [] => by rw [checkUL, if_neg]; rintro ⟨p, hp, -⟩; cases hp
  | p :: l => by
    rw [checkUL, checkUL_eq g l]
    by_cases h : p.2.var ≠ ⟨#[]⟩ ∧ p.2.var ∉ g
    · rw [if_pos ((varNotIn _ _).2 h), if_pos ⟨p, List.mem_cons_self .., h⟩]
    · rw [if_neg (fun k => h ((varNotIn _ _).1 k))]
      congr 1
      apply propext
      simp only [List.mem_cons, exists_eq_or_imp, h, false_or]
open Classical in
theorem checkL_eq (g : List ByteArray) : ∀ l : List ByteArray, checkL g l = if (∃ v ∈ l, v ∉ g) then 5 else 0
  | [] => by rw [checkL, if_neg]; rintro ⟨p, hp, -⟩; cases hp
  | v :: l => by
    rw [checkL, checkL_eq g l]
    by_cases h : v ∈ g
    · rw [if_neg (fun k => ((notIn _ _).1 k) h)]
      congr 1
      apply propext
      simp only [List.mem_cons, exists_eq_or_imp, h, not_true_eq_false, false_or]
    · rw [if_pos ((notIn _ _).2 h), if_pos ⟨v, List.mem_cons_self .., h⟩]
theorem mem_varL (v : ByteArray) : ∀ (l : List Slot) (acc : List ByteArray), v ∈ varL l acc ↔ v ∈ acc ∨ (v ≠ ⟨#[]⟩ ∧ ∃ s ∈ l, s.var = v)
  | [], acc => by simp [varL]
  | s :: l, acc => by
    rw [varL]
    by_cases h : s.var ≠ ⟨#[]⟩ ∧ s.var ∉ acc
    · rw [if_pos ((varNotIn _ _).2 h), mem_varL v l, List.mem_append, List.mem_singleton]
      simp only [List.mem_cons, exists_eq_or_imp]
      constructor
      · rintro ((h1 | rfl) | h1)
        · exact .inl h1
        · exact .inr ⟨h.1, .inl rfl⟩
        · exact .inr ⟨h1.1, .inr h1.2⟩
      · rintro (h1 | ⟨h1, rfl | h2⟩)
        · exact .inl (.inl h1)
        · exact .inl (.inr rfl)
        · exact .inr ⟨h1, h2⟩
    · rw [if_neg (fun k => h ((varNotIn _ _).1 k)), mem_varL v l]
      simp only [List.mem_cons, exists_eq_or_imp]
      constructor
      · rintro (h1 | h1)
        · exact .inl h1
        · exact .inr ⟨h1.1, .inr h1.2⟩
      · rintro (h1 | ⟨h1, rfl | h2⟩)
        · exact .inl h1
        · left
          by_cases hm : s.var ∈ acc
          · exact hm
          · exact absurd ⟨h1, hm⟩ h
        · exact .inr ⟨h1, h2⟩
theorem mem_allL (s : Slot) : ∀ (b : List Lt) (acc : List Slot), s ∈ allL b acc ↔ s ∈ acc ∨ ∃ x ∈ b, s ∈ slotsR x
  | [], acc => by simp [allL]
  | x :: b, acc => by
    rw [allL, mem_allL s b]
    simp only [List.mem_append, List.mem_cons, exists_eq_or_imp, or_assoc]
theorem mem_bodyP (p : Int × Slot) : ∀ (b : List Lt) (i : Int), p ∈ bodyP i b ↔ ∃ (j : Nat) (x : Lt), b[j]? = some x ∧ p.1 = i + (j : Int) ∧ p.2 ∈ slotsR x
  | [], i => by simp [bodyP]
  | x :: b, i => by
    rw [bodyP, List.mem_append, mem_bodyP p b (i + 1)]
    constructor
    · rintro (h | ⟨j, y, h1, h2, h3⟩)
      · rw [List.mem_map] at h
        obtain ⟨s, hs, rfl⟩ := h
        exact ⟨0, x, rfl, by simp, hs⟩
      · exact ⟨j + 1, y, by simpa using h1, by rw [h2]; omega, h3⟩
    · rintro ⟨j, y, h1, h2, h3⟩
      rcases j with _ | j
      · injection h1 with h1; subst h1
        left
        rw [List.mem_map]
        exact ⟨p.2, h3, by rw [show i = p.1 by omega]⟩
      · right
        exact ⟨j, y, by simpa using h1, by rw [h2]; omega, h3⟩
theorem slots_of_places (r : Rule) (s : Slot) : (∃ p ∈ placesL r, p.2 = s) ↔ s ∈ allR r := by
  rw [allR, mem_allL]
  simp only [placesL, List.mem_append, headP, List.mem_cons, List.not_mem_nil, or_false]
  constructor
  · rintro ⟨p, (rfl | rfl | rfl) | h, rfl⟩
    · exact .inl (.inl rfl)
    · exact .inl (.inr (.inl rfl))
    · exact .inl (.inr (.inr rfl))
    · obtain ⟨j, x, h1, h2, h3⟩ := (mem_bodyP p r.body 0).1 h
      exact .inr ⟨x, List.mem_of_getElem? h1, h3⟩
  · rintro ((rfl | rfl | rfl) | ⟨x, h1, h2⟩)
    · exact ⟨(-1, r.head.a), .inl (.inl rfl), rfl⟩
    · exact ⟨(-1, r.head.b), .inl (.inr (.inl rfl)), rfl⟩
    · exact ⟨(-1, r.head.c), .inl (.inr (.inr rfl)), rfl⟩
    · obtain ⟨j, hj, rfl⟩ := List.mem_iff_getElem.1 h1
      exact ⟨((j : Int), s), .inr ((mem_bodyP _ r.body 0).2 ⟨j, _, List.getElem?_eq_getElem hj, by simp, h2⟩), rfl⟩
theorem mem_givenL (v : ByteArray) : ∀ (b : List Lt) (acc : List ByteArray), v ∈ givenL b acc ↔ v ∈ acc ∨ ∃ x ∈ b, x.kind = 1 ∧ v ∈ vs3 x.pat
  | [], acc => by simp [givenL]
  | x :: b, acc => by
    rw [givenL]
    by_cases h : x.kind = 1
    · rw [if_neg (fun e => e h), mem_givenL v b]
      simp only [List.mem_append, List.mem_cons, exists_eq_or_imp, h, true_and, or_assoc]
    · rw [if_pos h, mem_givenL v b]
      simp only [List.mem_cons, exists_eq_or_imp, h, false_and, false_or]
theorem slots_one {x : Lt} (h : x.kind = 1) (v : ByteArray) : v ∈ vs3 x.pat ↔ ∃ s ∈ slotsR x, s.var = v := by
  rw [slotsR, if_pos (by simp [h])]
  simp only [vs3, List.mem_cons, List.not_mem_nil, or_false, exists_eq_or_imp, exists_eq_left]
  constructor
  · rintro (rfl | rfl | rfl)
    · exact .inl rfl
    · exact .inr (.inl rfl)
    · exact .inr (.inr rfl)
  · rintro (rfl | rfl | rfl)
    · exact .inl rfl
    · exact .inr (.inl rfl)
    · exact .inr (.inr rfl)
theorem mem_givP (r : Rule) (v : ByteArray) : v ∈ givP r (placesL r).length ↔ v ≠ ⟨#[]⟩ ∧ v ∈ givenR r := by
  rw [givP, List.take_of_length_le (Nat.le_refl _), List.mem_map, givenR, mem_givenL]
  simp only [List.mem_filter, condP, Bool.and_eq_true, decide_eq_true_eq, List.not_mem_nil, false_or]
  constructor
  · rintro ⟨p, ⟨hp, ⟨h1, h2⟩, h3⟩, rfl⟩
    refine ⟨h3, ?_⟩
    rw [placesL, List.mem_append] at hp
    rcases hp with hp | hp
    · simp only [headP, List.mem_cons, List.not_mem_nil, or_false] at hp
      rcases hp with rfl | rfl | rfl <;> simp at h1
    · obtain ⟨j, x, k1, k2, k3⟩ := (mem_bodyP p r.body 0).1 hp
      have hx : litAt r p.1 = x := by
        rw [litAt, show p.1.toNat = j by omega, k1]; rfl
      rw [hx] at h2
      exact ⟨x, List.mem_of_getElem? k1, h2, (slots_one h2 _).2 ⟨p.2, k3, rfl⟩⟩
  · rintro ⟨h1, x, hx, h2, h3⟩
    obtain ⟨s, hs, rfl⟩ := (slots_one h2 v).1 h3
    obtain ⟨j, hj, rfl⟩ := List.mem_iff_getElem.1 hx
    refine ⟨((j : Int), s), ⟨?_, ⟨by simp, ?_⟩, h1⟩, rfl⟩
    · rw [placesL, List.mem_append]
      exact .inr ((mem_bodyP _ r.body 0).2 ⟨j, _, List.getElem?_eq_getElem hj, by simp, hs⟩)
    · rw [litAt, Int.toNat_natCast, List.getElem?_eq_getElem hj]; exact h2
theorem rule_eq (r : Rule) : ruleU r = ruleQ r := by
  rw [ruleU, ruleQ, may_eq, checkUL_eq, checkL_eq]
  split
  · rfl
  · congr 1
    apply propext
    constructor
    · rintro ⟨p, hp, h1, h2⟩
      refine ⟨p.2.var, (mem_varL _ _ _).2 (.inr ⟨h1, p.2, (slots_of_places r p.2).1 ⟨p, hp, rfl⟩, rfl⟩), fun h => h2 ((mem_givP r _).2 ⟨h1, h⟩)⟩
    · rintro ⟨v, hv, h2⟩
      rw [varsR, mem_varL] at hv
      rcases hv with hv | ⟨h1, s, hs, rfl⟩
      · cases hv
      · obtain ⟨p, hp, rfl⟩ := (slots_of_places r s).2 hs
        exact ⟨p, hp, h1, fun h => h2 ((mem_givP r _).1 h).2⟩
theorem first_eq : ∀ l : List Rule, firstB l = errL l
  | [] => rfl
  | r :: l => by rw [firstB, errL, rule_eq, first_eq l]
theorem nv_eq : ∀ b : List Lt, nvB b = notB b
  | [] => rfl
  | x :: b => by rw [nvB, notB, nv_eq b]
theorem sameL_eq : ∀ (a b : List Lt), a.length = b.length → sameL a b = decide (a = b)
  | [], [], _ => by simp [sameL]
  | x :: a, y :: b, h => by
    have ih := sameL_eq a b (by simpa using h)
    rw [sameL, ih]
    by_cases hxy : x = y
    · simp [hxy]
    · simp [hxy]
theorem sameP_eq (o r : Rule) : sameP o r = decide (o = r) := by
  obtain ⟨oh, ob⟩ := o
  obtain ⟨rh, rb⟩ := r
  rw [sameP, eqL]
  by_cases hl : ob.length = rb.length
  · rw [if_neg (by simp [hl]), sameL_eq _ _ hl]
    rw [Bool.eq_iff_iff]; simp
  · rw [if_pos (by simp only []; omega)]
    have : ¬ ob = rb := fun e => hl (by rw [e])
    simp [this]
theorem sameR_eq (o r : Rule) : sameR o r = decide (o = r) := by
  obtain ⟨oh, ob⟩ := o
  obtain ⟨rh, rb⟩ := r
  rw [sameR]
  by_cases hl : ob.length = rb.length
  · by_cases hh : oh = rh
    · rw [if_neg (by simp [hl, hh]), sameL_eq _ _ hl]
      rw [Bool.eq_iff_iff]; simp [hh]
    · rw [if_pos (by simp [hh])]; simp [hh]
  · rw [if_pos (by simp only [Bool.or_eq_true, decide_eq_true_eq]; exact .inr (by omega))]
    have : ¬ ob = rb := fun e => hl (by rw [e])
    simp [this]
theorem dupIn_eq (r : Rule) : ∀ m : List Rule, dupIn r m = m.any fun o => sameP o r
  | [] => rfl
  | o :: m => by
    rw [dupIn, dupIn_eq r m, List.any_cons, sameR_eq, sameP_eq]
    by_cases h : r = o
    · simp [h]
    · have h' : ¬ o = r := fun e => h e.symm
      simp [h, h']
theorem progS_eq (all : List Rule) (not : Bool) : ∀ (l : List Rule) (i : Nat) (bad : Int), progS all not i l bad = if (l.any fun r => (not && decide (r.head.b.var ≠ ⟨#[]⟩)) || notB r.body) = true then 5 else if bad ≠ 0 then bad else if dupL all i l = true then 8 else 0
  | [], i, bad => by
    rw [progS, dupL]
    by_cases h : bad = 0 <;> simp [h]
  | r :: l, i, bad => by
    rw [progS, progS_eq all not l (i + 1), List.any_cons, dupL, dupIn_eq, nv_eq]
    by_cases h1 : (not && decide (r.head.b.var ≠ ⟨#[]⟩)) = true
    · rw [if_pos h1, h1]; simp
    · rw [if_neg h1, show (not && decide (r.head.b.var ≠ ⟨#[]⟩)) = false by simpa using h1]
      by_cases h2 : notB r.body = true
      · rw [if_pos h2, h2]; simp
      · rw [if_neg h2, show notB r.body = false by simpa using h2]
        simp only [Bool.or_self, Bool.false_or]
        split
        · rfl
        · by_cases hb : bad = 0
          · subst hb
            simp only [decide_true, Bool.true_and]
            cases (all.take i).any (fun o => sameP o r) <;> simp
          · rw [show decide (bad = 0) = false from decide_eq_false hb]
            simp [hb]
theorem notB_negB : ∀ b : List Lt, notB b = true → negB b = true
  | x :: b, h => by
    rw [notB] at h
    rw [negB]
    split
    · rfl
    · rename_i hk
      rw [if_neg (by simp [hk])] at h
      exact notB_negB b h
theorem negF_of {r : Rule} : ∀ {l : List Rule}, r ∈ l → negB r.body = true → negF l = true
  | x :: l, hm, h => by
    rw [negF]
    split
    · rfl
    · rename_i hn
      rcases List.mem_cons.1 hm with rfl | hm
      · exact absurd h hn
      · exact negF_of hm h
theorem notL_iff : ∀ l : List Rule, notL l = l.any fun r => decide (r.head.b.var ≠ ⟨#[]⟩) || notB r.body
  | [] => rfl
  | r :: l => by
    rw [notL, notL_iff l, List.any_cons]
    by_cases h : r.head.b.var ≠ ⟨#[]⟩
    · rw [if_pos h]; simp [h]
    · rw [if_neg h, show decide (r.head.b.var ≠ ⟨#[]⟩) = false from decide_eq_false h]
      cases notB r.body <;> simp
theorem any_eq (l : List Rule) : (l.any fun r => (negF l && decide (r.head.b.var ≠ ⟨#[]⟩)) || notB r.body) = (negF l && notL l) := by
  rw [notL_iff]
  cases hn : negF l with
  | true => simp only [Bool.true_and]
  | false =>
    simp only [Bool.false_and, Bool.false_or]
    rw [List.any_eq_false]
    intro r hr h
    rw [negF_of hr (notB_negB _ h)] at hn
    cases hn
theorem prog_eq (l : List Rule) : progU l = progR l := by
  rw [progU, progR, first_eq, progS_eq, any_eq]
  split
  · rfl
  · split
    · rename_i h
      rw [if_pos (by simp)]
    · simp only [ne_eq, not_true_eq_false, if_false]
      split
      · rw [if_pos (by simp)]
      · rw [if_neg (by simp)]
end Go.AM.Tryd
end
section
set_option linter.unusedVariables false
set_option linter.unusedSimpArgs false
set_option maxRecDepth 100000
namespace Go.AM.Tryd
open Go Go.AM Go.AM.D
theorem predF_nodup : ∀ (l : List Rule) (acc : List Term), acc.Nodup → (predF l acc).Nodup
  | [], acc, h => h
  | r :: l, acc, h => by
    rw [predF]
    split
    · rename_i hc
      simp only [Bool.and_eq_true, decide_eq_true_eq] at hc
      refine predF_nodup l _ ?_
      rw [List.nodup_append]
      refine ⟨h, by simp, fun a ha b hb => ?_⟩
      rw [List.mem_singleton] at hb
      subst hb
      intro e
      subst e
      have hg := atF_ge r.head.b.term acc 0
      have : atF r.head.b.term acc 0 ≠ -1 := by
        obtain ⟨u, v, rfl⟩ := List.append_of_mem ha
        have h1 : atF r.head.b.term (u ++ [r.head.b.term]) 0 ≠ -1 := atF_last (by omega)
        have h2 := atF_app (m := v) (by omega) h1
        rwa [List.append_assoc, List.singleton_append] at h2
      omega
    · exact predF_nodup l _ h
theorem atF_mem {t : Term} {l : List Term} (h : t ∈ l) : atF t l 0 ≠ -1 := by
  obtain ⟨u, v, rfl⟩ := List.append_of_mem h
  have h1 : atF t (u ++ [t]) 0 ≠ -1 := atF_last (by omega)
  have h2 := atF_app (m := v) (by omega) h1
  rwa [List.append_assoc, List.singleton_append] at h2
theorem lookI_at {t : Term} {p : List Term} (h : atF t p 0 ≠ -1) : p[(lookI t p).toNat]? = some t := by
  have h1 := atF_at h (by omega)
  have h2 := lookI_lt h
  rw [h2.2.2]
  rwa [Int.sub_zero] at h1
theorem lookI_tAt {p : List Term} (hn : p.Nodup) {i : Nat} (hi : i < p.length) : (lookI (tAt p i) p).toNat = i := by
  have hm : tAt p i ∈ p := List.mem_of_getElem? (tAt_get hi)
  have h1 := lookI_at (atF_mem hm)
  have h2 := tAt_get hi
  have h3 := lookI_lt (atF_mem hm)
  exact (List.getElem?_inj (by omega) hn).1 (h1.trans h2.symm)
theorem mem_addE (o : List (List Edg)) (j : Nat) (es : List Edg) (i : Nat) (e : Edg) : e ∈ (addE o j es).getD i [] ↔ e ∈ o.getD i [] ∨ (i = j ∧ i < o.length ∧ e ∈ es) := by
  rw [addE, List.getD_eq_getElem?_getD, List.getElem?_set]
  by_cases hij : j = i
  · subst hij
    by_cases hl : j < o.length
    · rw [if_pos rfl, if_pos hl, Option.getD_some, List.mem_append]; simp [hl]
    · rw [if_pos rfl, if_neg hl, List.getD_eq_getElem?_getD, List.getElem?_eq_none (by omega)]; simp [hl]
  · rw [if_neg hij, ← List.getD_eq_getElem?_getD]
    have : ¬ i = j := fun h => hij h.symm
    simp [this]
theorem mem_outF (names : List Term) (i : Nat) (e : Edg) : ∀ (l : List Rule) (o : List (List Edg)), e ∈ (outF names l o).getD i [] ↔ e ∈ o.getD i [] ∨ (i < o.length ∧ ∃ r ∈ l, r.head.b.var = ⟨#[]⟩ ∧ (lookI r.head.b.term names).toNat = i ∧ e ∈ edgesL names r.body)
  | [], o => by simp [outF]
  | r :: l, o => by
    rw [outF]
    by_cases hv : r.head.b.var = ⟨#[]⟩
    · rw [if_neg (fun h => h hv), mem_outF names i e l, mem_addE, addE_len]
      simp only [List.mem_cons, exists_eq_or_imp, hv, true_and]
      constructor
      · rintro ((h | ⟨h1, h2, h3⟩) | ⟨h1, h2⟩)
        · exact .inl h
        · exact .inr ⟨h2, .inl ⟨h1.symm, h3⟩⟩
        · exact .inr ⟨h1, .inr h2⟩
      · rintro (h | ⟨h1, ⟨h2, h3⟩ | h2⟩)
        · exact .inl (.inl h)
        · exact .inl (.inr ⟨h2.symm, h1, h3⟩)
        · exact .inr ⟨h1, h2⟩
    · rw [if_pos hv, mem_outF names i e l]
      simp only [List.mem_cons, exists_eq_or_imp, hv, false_and, false_or]
theorem mem_edgesL (names : List Term) (e : Edg) : ∀ b : List Lt, e ∈ edgesL names b ↔ ∃ x ∈ b, e ∈ edgeL names x
  | [] => by simp [edgesL]
  | x :: b => by rw [edgesL, List.mem_append, mem_edgesL names e b]; simp
theorem hangL_iff (q : Term) (strict : Bool) : ∀ b : List Lt, hangL q strict b = true ↔ ∃ x ∈ b, (x.kind = 1 ∧ strict = false ∧ (x.pat.b.var ≠ ⟨#[]⟩ ∨ x.pat.b.term = q)) ∨ (x.kind = 2 ∧ x.pat.b.var = ⟨#[]⟩ ∧ x.pat.b.term = q)
  | [] => by simp [hangL]
  | x :: b => by
    rw [hangL]
    simp only [List.mem_cons, exists_eq_or_imp]
    by_cases h1 : ((decide (x.kind = 1) && !strict) && (decide (x.pat.b.var ≠ ⟨#[]⟩) || decide (x.pat.b.term = q))) = true
    · rw [if_pos h1]
      simp only [Bool.and_eq_true, Bool.or_eq_true, decide_eq_true_eq, Bool.not_eq_true'] at h1
      exact ⟨fun _ => .inl (.inl ⟨h1.1.1, h1.1.2, h1.2⟩), fun _ => rfl⟩
    · rw [if_neg h1]
      by_cases h2 : ((decide (x.kind = 2) && decide (x.pat.b.var = ⟨#[]⟩)) && decide (x.pat.b.term = q)) = true
      · rw [if_pos h2]
        simp only [Bool.and_eq_true, decide_eq_true_eq] at h2
        exact ⟨fun _ => .inl (.inr ⟨h2.1.1, h2.1.2, h2.2⟩), fun _ => rfl⟩
      · rw [if_neg h2, hangL_iff q strict b]
        simp only [Bool.and_eq_true, Bool.or_eq_true, decide_eq_true_eq, Bool.not_eq_true'] at h1 h2
        constructor
        · exact fun h => .inr h
        · rintro ((h | h) | h)
          · exact absurd ⟨⟨h.1, h.2.1⟩, h.2.2⟩ h1
          · exact absurd ⟨⟨h.1, h.2.1⟩, h.2.2⟩ h2
          · exact h
theorem hangF_iff (p q : Term) (strict : Bool) : ∀ l : List Rule, hangF p q strict l = true ↔ ∃ r ∈ l, r.head.b.var = ⟨#[]⟩ ∧ r.head.b.term = p ∧ hangL q strict r.body = true
  | [] => by simp [hangF]
  | r :: l => by
    rw [hangF]
    simp only [List.mem_cons, exists_eq_or_imp]
    by_cases h : r.head.b.var = ⟨#[]⟩ ∧ r.head.b.term = p
    · rw [if_neg (by simp [h.1, h.2])]
      by_cases h2 : hangL q strict r.body = true
      · rw [if_pos h2]; exact ⟨fun _ => .inl ⟨h.1, h.2, h2⟩, fun _ => rfl⟩
      · rw [if_neg h2, hangF_iff p q strict l]
        constructor
        · exact fun k => .inr k
        · rintro (k | k)
          · exact absurd k.2.2 h2
          · exact k
    · rw [if_pos ?_, hangF_iff p q strict l]
      · constructor
        · exact fun k => .inr k
        · rintro (k | k)
          · exact absurd ⟨k.1, k.2.1⟩ h
          · exact k
      · simp only [Bool.or_eq_true, decide_eq_true_eq]
        by_cases hv : r.head.b.var = ⟨#[]⟩
        · exact .inr fun e => h ⟨hv, e⟩
        · exact .inl hv
theorem notB_none {b : List Lt} (h : notB b = false) : ∀ x ∈ b, x.kind = 2 → x.pat.b.var = ⟨#[]⟩ := by
  induction b with
  | nil => intro x hx; cases hx
  | cons y b ih =>
    rw [notB] at h
    split at h
    · cases h
    · rename_i hy
      intro x hx hk
      rcases List.mem_cons.1 hx with rfl | hx
      · by_cases hv : x.pat.b.var = ⟨#[]⟩
        · exact hv
        · exact absurd (by simp [hk, hv]) hy
      · exact ih h x hx hk
theorem notL_none {l : List Rule} (h : notL l = false) : ∀ r ∈ l, notB r.body = false := by
  rw [notL_iff] at h
  intro r hr
  have := List.any_eq_false.1 h r hr
  simp only [Bool.or_eq_true, not_or, Bool.not_eq_true] at this
  exact this.2
theorem mem_see (l : List Rule) (i : Nat) (e : Edg) : (∃ es, (seeG l).out[i]? = some es ∧ e ∈ es) ↔ (i < (predF l []).length ∧ ∃ r ∈ l, r.head.b.var = ⟨#[]⟩ ∧ (lookI r.head.b.term (predF l [])).toNat = i ∧ ∃ x ∈ r.body, e ∈ edgeL (predF l []) x) := by
  have h := mem_outF (predF l []) i e l (List.replicate (predF l []).length [])
  have h0 : (List.replicate (predF l []).length ([] : List Edg)).getD i [] = [] := by
    rw [List.getD_eq_getElem?_getD, List.getElem?_replicate]; split <;> rfl
  rw [h0, List.length_replicate] at h
  simp only [List.not_mem_nil, false_or, mem_edgesL] at h
  rw [← h]
  show _ ↔ e ∈ (seeG l).out.getD i []
  rw [List.getD_eq_getElem?_getD]
  cases (seeG l).out[i]? with
  | none => simp
  | some es => simp
theorem cl_eq {l : List Rule} (hn : notL l = false) (ns : List Int) : clP (seeG l).out ns ↔ clR l (predF l []) ns := by
  have hnd := predF_nodup l [] (by simp)
  constructor
  · intro h i k hi hk
    have key : ∀ (r : Rule) (x : Lt) (e : Edg), r ∈ l → r.head.b.var = ⟨#[]⟩ → r.head.b.term = tAt (predF l []) i → x ∈ r.body → e ∈ edgeL (predF l []) x → eok ns i e := by
      intro r x e hr hv ht hx he
      obtain ⟨es, h1, h2⟩ := (mem_see l i e).2 ⟨hi, r, hr, hv, by rw [ht]; exact lookI_tAt hnd hi, x, hx, he⟩
      exact h i es h1 e h2
    have hkm : tAt (predF l []) k ∈ predF l [] := List.mem_of_getElem? (tAt_get hk)
    have hlk := lookI_lt (atF_mem hkm)
    have hlkk := lookI_tAt hnd hk
    have hlB : lookB (tAt (predF l []) k) (predF l []) = true := by simp only [lookB, decide_eq_true_eq]; omega
    refine ⟨fun hh => ?_, fun hh => ?_⟩
    · obtain ⟨r, hr, hv, ht, hb⟩ := (hangF_iff _ _ _ _).1 hh
      obtain ⟨x, hx, ⟨-, h2, -⟩ | ⟨h1, h2, h3⟩⟩ := (hangL_iff _ _ _).1 hb
      · cases h2
      · have := key r x ⟨lookI x.pat.b.term (predF l []), decide (x.kind = 2)⟩ hr hv ht hx (by
          rw [edgeL, if_neg (by simp [h1]), if_neg (fun e => e h2), h3, if_pos hlB]; simp)
        rw [eok, h3, hlkk] at this
        simpa [h1] using this
    · obtain ⟨r, hr, hv, ht, hb⟩ := (hangF_iff _ _ _ _).1 hh
      obtain ⟨x, hx, ⟨h1, -, h3⟩ | ⟨h1, h2, h3⟩⟩ := (hangL_iff _ _ _).1 hb
      · by_cases hv2 : x.pat.b.var = ⟨#[]⟩
        · have h4 := h3.resolve_left (fun e => e hv2)
          have := key r x ⟨lookI x.pat.b.term (predF l []), decide (x.kind = 2)⟩ hr hv ht hx (by
            rw [edgeL, if_neg (by simp [h1]), if_neg (fun e => e hv2), h4, if_pos hlB]; simp)
          rw [eok, h4, hlkk] at this
          simpa [h1] using this
        · have := key r x ⟨(k : Int), false⟩ hr hv ht hx (by
            rw [edgeL, if_neg (by simp [h1]), if_pos hv2, List.mem_map]
            exact ⟨k, List.mem_range.2 hk, rfl⟩)
          rw [eok, Int.toNat_natCast] at this
          simpa using this
      · have := key r x ⟨lookI x.pat.b.term (predF l []), decide (x.kind = 2)⟩ hr hv ht hx (by
          rw [edgeL, if_neg (by simp [h1]), if_neg (fun e => e h2), h3, if_pos hlB]; simp)
        rw [eok, h3, hlkk] at this
        simp only [h1, decide_true, if_true] at this
        omega
  · intro h i es hes e he
    obtain ⟨hi, r, hr, hv, ht, x, hx, hex⟩ := (mem_see l i e).1 ⟨es, hes, he⟩
    have hhas := predF_has (acc := []) hr hv
    have hterm : r.head.b.term = tAt (predF l []) i := by
      have h1 := lookI_at hhas
      rw [ht] at h1
      have h2 := tAt_get hi
      rw [h1] at h2
      exact Option.some.inj h2
    rw [edgeL] at hex
    split at hex
    · cases hex
    · rename_i hk
      simp only [Bool.and_eq_true, decide_eq_true_eq, not_and, Decidable.not_not] at hk
      split at hex
      · rename_i hv2
        rw [List.mem_map] at hex
        obtain ⟨k, hkr, rfl⟩ := hex
        rw [List.mem_range] at hkr
        have h1 : x.kind = 1 := by
          by_cases h1 : x.kind = 1
          · exact h1
          · exact absurd (notB_none (notL_none hn r hr) x hx (hk h1)) hv2
        have := (h i k hi hkr).2 ((hangF_iff _ _ _ _).2 ⟨r, hr, hv, hterm, (hangL_iff _ _ _).2 ⟨x, hx, .inl ⟨h1, rfl, .inl hv2⟩⟩⟩)
        rw [eok, Int.toNat_natCast]
        simpa using this
      · rename_i hv2
        simp only [Decidable.not_not, ne_eq] at hv2
        split at hex
        · rename_i hB
          rw [List.mem_singleton] at hex
          subst hex
          simp only [lookB, decide_eq_true_eq] at hB
          have hne : atF x.pat.b.term (predF l []) 0 ≠ -1 := by omega
          have hlt := lookI_lt hne
          have hk2 : (lookI x.pat.b.term (predF l [])).toNat < (predF l []).length := by omega
          have hq : tAt (predF l []) (lookI x.pat.b.term (predF l [])).toNat = x.pat.b.term := by
            have h1 := lookI_at hne
            have h2 := tAt_get hk2
            rw [h1] at h2
            exact (Option.some.inj h2).symm
          have hc := h i (lookI x.pat.b.term (predF l [])).toNat hi hk2
          rw [cpair, hq] at hc
          rw [eok]
          by_cases h2 : x.kind = 2
          · have := hc.1 ((hangF_iff _ _ _ _).2 ⟨r, hr, hv, hterm, (hangL_iff _ _ _).2 ⟨x, hx, .inr ⟨h2, hv2, rfl⟩⟩⟩)
            simpa [h2] using this
          · have h1 : x.kind = 1 := by
              by_cases h1 : x.kind = 1
              · exact h1
              · exact absurd (hk h1) h2
            have := hc.2 ((hangF_iff _ _ _ _).2 ⟨r, hr, hv, hterm, (hangL_iff _ _ _).2 ⟨x, hx, .inl ⟨h1, rfl, .inr rfl⟩⟩⟩)
            simpa [h1] using this
        · cases hex
theorem progR_not {l : List Rule} (h : progR l = 0) (hn : negF l ≠ false) : notL l = false := by
  rw [progR] at h
  split at h
  · rename_i h1; exact absurd h h1
  · split at h
    · cases h
    · rename_i h2
      simp only [Bool.and_eq_true, not_and, Bool.not_eq_true] at h2
      exact h2 (by simpa using hn)
theorem find_ref (l : List Rule) : findN l = refN l := by
  rw [findN, refN, prog_eq]
  split
  · rfl
  · rename_i h
    simp only [ne_eq, Decidable.not_not] at h
    split
    · rfl
    · rename_i hn
      rw [numV_congr fun ns _ => cl_eq (progR_not h hn) ns]
end Go.AM.Tryd
end
section
set_option linter.unusedVariables false
set_option linter.unusedSimpArgs false
set_option maxRecDepth 100000
namespace Go.AM.Tryd
open Go Go.AM Go.AM.D
theorem mem_predF (t : Term) : ∀ (l : List Rule) (acc : List Term), t ∈ predF l acc ↔ t ∈ acc ∨ ∃ r ∈ l, r.head.b.var = ⟨#[]⟩ ∧ r.head.b.term = t
  | [], acc => by simp [predF]
  | r :: l, acc => by
    rw [predF]
    split
    · rename_i h
      simp only [Bool.and_eq_true, decide_eq_true_eq] at h
      rw [mem_predF t l]
      simp only [List.mem_append, List.mem_singleton, List.mem_cons, exists_eq_or_imp, List.not_mem_nil, or_false]
      constructor
      · rintro ((h1 | h1) | h1)
        · exact .inl h1
        · exact .inr (.inl ⟨h.1, h1.symm⟩)
        · exact .inr (.inr h1)
      · rintro (h1 | h1 | h1)
        · exact .inl (.inl h1)
        · exact .inl (.inr h1.2.symm)
        · exact .inr h1
    · rename_i h
      simp only [Bool.and_eq_true, decide_eq_true_eq, not_and] at h
      rw [mem_predF t l]
      simp only [List.mem_cons, exists_eq_or_imp]
      constructor
      · rintro (h1 | h1)
        · exact .inl h1
        · exact .inr (.inr h1)
      · rintro (h1 | h1 | h1)
        · exact .inl h1
        · refine .inl ?_
          have h2 := h h1.1
          have h3 : atF r.head.b.term acc 0 ≠ -1 := by omega
          rw [← h1.2]
          exact List.mem_of_getElem? (lookI_at h3)
        · exact .inr h1
theorem errL_iff : ∀ l : List Rule, errL l = 0 ↔ ∀ r ∈ l, ruleQ r = 0
  | [] => by simp [errL]
  | r :: l => by
    rw [errL]
    simp only [List.mem_cons, forall_eq_or_imp]
    split
    · rename_i h; exact ⟨fun k => absurd k h, fun k => absurd k.1 h⟩
    · rename_i h; rw [errL_iff l]; simp only [ne_eq, Decidable.not_not] at h; exact ⟨fun k => ⟨h, k⟩, fun k => k.2⟩
theorem negF_iff : ∀ l : List Rule, negF l = true ↔ ∃ r ∈ l, negB r.body = true
  | [] => by simp [negF]
  | r :: l => by
    rw [negF]
    simp only [List.mem_cons, exists_eq_or_imp]
    split
    · rename_i h; exact ⟨fun _ => .inl h, fun _ => rfl⟩
    · rename_i h; rw [negF_iff l]; exact ⟨.inr, fun k => k.resolve_left h⟩
theorem dupIn_iff (r : Rule) (m : List Rule) : dupIn r m = true ↔ r ∈ m := by
  induction m with
  | nil => simp [dupIn]
  | cons o m ih =>
    rw [dupIn, sameR_eq]
    simp only [decide_eq_true_eq, List.mem_cons]
    split
    · rename_i h; exact ⟨fun _ => .inl h, fun _ => rfl⟩
    · rename_i h; rw [ih]; exact ⟨.inr, fun k => k.resolve_left h⟩
theorem dupL_iff : ∀ (l pre : List Rule), dupL (pre ++ l) pre.length l = true ↔ ¬ (∀ (i : Nat) (r : Rule), l[i]? = some r → r ∉ pre ++ l.take i)
  | [], pre => by simp [dupL]
  | r :: l, pre => by
    rw [dupL]
    have e := dupL_iff l (pre ++ [r])
    rw [List.append_assoc, List.singleton_append, List.length_append, List.length_singleton] at e
    rw [List.take_left']
    · split
      · rename_i h
        rw [dupIn_iff] at h
        exact ⟨fun _ k => k 0 r rfl (by simpa using h), fun _ => rfl⟩
      · rename_i h
        rw [dupIn_iff] at h
        rw [e]
        refine not_congr ⟨fun k i x hx => ?_, fun k i x hx => ?_⟩
        · cases i with
          | zero => simp at hx; subst hx; simpa using h
          | succ i => have := k i x (by simpa using hx); rwa [List.append_assoc, List.singleton_append] at this
        · have := k (i + 1) x (by simpa using hx)
          rwa [List.take_succ_cons, ← List.singleton_append, ← List.append_assoc] at this
    · rfl
theorem dup_nodup (l : List Rule) : dupL l 0 l = false ↔ l.Nodup := by
  have h := dupL_iff l []
  simp only [List.nil_append, List.length_nil] at h
  rw [← Bool.not_eq_true, h, Classical.not_not]
  constructor
  · intro k
    rw [List.nodup_iff_pairwise_ne, List.pairwise_iff_getElem]
    intro i j hi hj hij e
    refine k j l[j] (List.getElem?_eq_getElem hj) ?_
    rw [← e]
    exact List.mem_take_iff_getElem.2 ⟨i, by omega, rfl⟩
  · intro hn i r hr hm
    obtain ⟨j, hj, e⟩ := List.mem_take_iff_getElem.1 hm
    have h2 := (List.getElem?_eq_some_iff.1 hr)
    have h3 : j = i := (List.getElem?_inj (by omega) hn).1 (by rw [hr, List.getElem?_eq_getElem (by omega), e])
    omega
theorem progR_perm {l m : List Rule} (hp : l.Perm m) (h : progR l = 0) : progR m = 0 := by
  rw [progR] at h ⊢
  split at h
  · rename_i h1; exact absurd h h1
  · rename_i h1
    simp only [ne_eq, Decidable.not_not] at h1
    have e1 : errL m = 0 := (errL_iff m).2 fun r hr => (errL_iff l).1 h1 r (hp.mem_iff.2 hr)
    rw [if_neg (by simp [e1])]
    have hneg : negF m = negF l := by rw [Bool.eq_iff_iff, negF_iff, negF_iff]; simp only [hp.mem_iff]
    have hnot : notL m = notL l := by rw [Bool.eq_iff_iff, notL_iff, notL_iff]; simp only [List.any_eq_true, hp.mem_iff]
    rw [hneg, hnot]
    split at h
    · cases h
    · rename_i h2
      rw [if_neg h2]
      split at h
      · cases h
      · rename_i h3
        have h4 := (dup_nodup l).1 (by simpa using h3)
        have h5 := (dup_nodup m).2 (hp.nodup_iff.1 h4)
        rw [if_neg (by simp [h5]), ← hp.length_eq]
        exact h
theorem rotI_eq (n : Nat) (y : Int) (hn : 0 < n) : ∃ k : Nat, k < n ∧ ∀ i : Nat, i < n → rotI n y i = if k + i < n then ((k + i : Nat) : Int) else ((k + i - n : Nat) : Int) := by
  have hb := rotI_bd y 0 hn
  refine ⟨(rotI n y 0).toNat, by omega, fun i hi => ?_⟩
  have h0 : rotI n y 0 = (y.tmod n + n) % n := by rw [rotI]; simp
  have hk : ((rotI n y 0).toNat : Int) = (y.tmod n + n) % n := by rw [← h0]; omega
  have e : rotI n y i = (((rotI n y 0).toNat : Int) + i) % n := by
    rw [hk, rotI, Int.emod_add_emod]; congr 1; omega
  rw [e]
  split
  · rename_i h
    rw [Int.emod_eq_of_lt (by omega) (by omega)]; omega
  · rename_i h
    rw [← Int.sub_emod_right, Int.emod_eq_of_lt (by omega) (by omega)]; omega
theorem rotL_perm (l : List Rule) (y : Int) : l.Perm (rotL l y) := by
  rcases Nat.eq_zero_or_pos l.length with h0 | h0
  · rw [List.length_eq_zero_iff.1 h0]; simp [rotL]
  obtain ⟨k, hk, he⟩ := rotI_eq l.length y h0
  have : rotL l y = l.drop k ++ l.take k := by
    apply List.ext_getElem?
    intro i
    rw [rotL, List.getElem?_map]
    by_cases hi : i < l.length
    · rw [List.getElem?_range hi, Option.map_some, he i hi, rAt, List.getD_eq_getElem?_getD]
      split
      · rename_i h
        rw [List.getElem?_append_left (by rw [List.length_drop]; omega), List.getElem?_drop, Int.toNat_natCast, List.getElem?_eq_getElem h]; rfl
      · rename_i h
        rw [List.getElem?_append_right (by rw [List.length_drop]; omega), List.length_drop, List.getElem?_take, if_pos (by omega), Int.toNat_natCast, show k + i - l.length = i - (l.length - k) by omega, List.getElem?_eq_getElem (by omega)]; rfl
    · rw [List.getElem?_eq_none (by simp; omega), List.getElem?_eq_none (by simp; omega)]; rfl
  rw [this]
  exact (List.perm_append_comm (l₁ := l.drop k) (l₂ := l.take k)).trans (by rw [List.take_append_drop]) |>.symm
def tr (p q : List Term) (ns : List Int) : List Int := q.map fun t => ns.getD (lookI t p).toNat 0
theorem tr_len (p q : List Term) (ns : List Int) : (tr p q ns).length = q.length := List.length_map ..
theorem tr_get {p q : List Term} {ns : List Int} {j : Nat} (h : j < q.length) : (tr p q ns).getD j 0 = ns.getD (lookI (tAt q j) p).toNat 0 := by
  rw [tr, List.getD_eq_getElem?_getD (l := List.map _ _), List.getElem?_map, tAt_get h]; rfl
theorem tAt_mem {p : List Term} {i : Nat} (h : i < p.length) : tAt p i ∈ p := List.mem_of_getElem? (tAt_get h)
theorem look_in {t : Term} {p : List Term} (h : t ∈ p) : (lookI t p).toNat < p.length ∧ tAt p (lookI t p).toNat = t := by
  have h1 := lookI_at (atF_mem h)
  have h2 := (List.getElem?_eq_some_iff.1 h1).1
  exact ⟨h2, Option.some.inj ((tAt_get h2).symm.trans h1)⟩
section
variable {l m : List Rule} {p q : List Term} {ns : List Int}
theorem tr_lo (hm : ∀ t, t ∈ p ↔ t ∈ q) (h : Lo p.length ns) : Lo q.length (tr p q ns) := by
  refine ⟨tr_len .., fun j hj => ?_⟩
  rw [tr_get hj]
  exact h.2 _ (look_in ((hm _).2 (tAt_mem hj))).1
theorem tr_cl (hm : ∀ t, t ∈ p ↔ t ∈ q) (hh : ∀ a b s, hangF a b s l = hangF a b s m) (h : clR l p ns) : clR m q (tr p q ns) := by
  intro i k hi hk
  have ji := look_in ((hm _).2 (tAt_mem hi))
  have jk := look_in ((hm _).2 (tAt_mem hk))
  have := h _ _ ji.1 jk.1
  rw [cpair, ji.2, jk.2] at this
  rw [cpair, tr_get hi, tr_get hk, ← hh, ← hh]
  exact this
theorem tr_is (hm : ∀ t, t ∈ p ↔ t ∈ q) (hlen : p.length = q.length) (hq : q.Nodup) (hh : ∀ a b s, hangF a b s l = hangF a b s m) (h : IsL (clR l p) p.length ns) : IsL (clR m q) q.length (tr p q ns) := by
  refine ⟨tr_lo hm h.lo, fun j hj => ?_, tr_cl hm hh h.cl, fun ms hlo hcl j hj => ?_⟩
  · rw [tr_get hj, ← hlen]
    exact h.hi _ (look_in ((hm _).2 (tAt_mem hj))).1
  · have j1 := look_in ((hm _).2 (tAt_mem hj))
    have := h.bel (tr q p ms) (tr_lo (fun t => (hm t).symm) hlo) (tr_cl (fun t => (hm t).symm) (fun a b s => (hh a b s).symm) hcl) _ j1.1
    rw [tr_get hj]
    rw [tr_get j1.1, j1.2] at this
    rwa [lookI_tAt hq hj] at this
end
theorem number_perm {l m : List Rule} (hp : l.Perm m) (h : progR l = 0) (t : Term) : numberU l t = numberU m t := by
  have hm := progR_perm hp h
  have hmem : ∀ t, t ∈ predF l [] ↔ t ∈ predF m [] := fun t => by rw [mem_predF, mem_predF]; simp only [hp.mem_iff]
  have n1 := predF_nodup l [] (by simp)
  have n2 := predF_nodup m [] (by simp)
  have hlen : (predF l []).length = (predF m []).length := ((List.perm_ext_iff_of_nodup n1 n2).2 hmem).length_eq
  have hh : ∀ a b s, hangF a b s l = hangF a b s m := fun a b s => by rw [Bool.eq_iff_iff, hangF_iff, hangF_iff]; simp only [hp.mem_iff]
  have hneg : negF m = negF l := by rw [Bool.eq_iff_iff, negF_iff, negF_iff]; simp only [hp.mem_iff]
  have hin : ∀ {p : List Term}, lookB t p = true ↔ t ∈ p := fun {p} => by
    simp only [lookB, decide_eq_true_eq]
    constructor
    · intro h; exact List.mem_of_getElem? (lookI_at (by omega))
    · intro h; have := (atF_ge t p 0).resolve_left (atF_mem h); omega
  have hlb : lookB t (predF l []) = lookB t (predF m []) := by rw [Bool.eq_iff_iff, hin, hin]; exact hmem t
  rw [numberU, numberU, find_ref, find_ref, ← hlb]
  have hr : (refN l).2 = (refN m).2 ∧ (t ∈ predF l [] → (refN l).2 = 0 → (refN l).1.getD (lookI t (predF l [])).toNat 0 = (refN m).1.getD (lookI t (predF m [])).toNat 0) := by
    rw [refN, refN, if_neg (show ¬ progR l ≠ 0 by simp [h]), if_neg (show ¬ progR m ≠ 0 by simp [hm]), hneg]
    split
    · refine ⟨rfl, fun ht _ => ?_⟩
      rw [rep_get (look_in ht).1, rep_get (look_in ((hmem t).1 ht)).1]
    · cases hv : numV (clR l (predF l [])) (predF l []).length with
      | some ns =>
        rw [numV_some (tr_is hmem hlen n2 hh (numV_spec hv))]
        refine ⟨rfl, fun ht _ => ?_⟩
        have j2 := look_in ((hmem t).1 ht)
        show ns.getD _ 0 = (tr _ _ ns).getD _ 0
        rw [tr_get j2.1, j2.2]
      | none =>
        cases hw : numV (clR m (predF m [])) (predF m []).length with
        | some ns =>
          rw [numV_some (tr_is (fun t => (hmem t).symm) hlen.symm n1 (fun a b s => (hh a b s).symm) (numV_spec hw))] at hv
          cases hv
        | none => exact ⟨rfl, fun _ h => by cases h⟩
  rw [← hr.1]
  split
  · rfl
  · rename_i h0
    split
    · rename_i h1; rw [hr.2 (hin.1 h1) (by simpa using h0)]
    · rfl
theorem rot_law (l : List Rule) (y : Int) (h : progR l = 0) (t : Term) : numberU l t = numberU (rotL l y) t := number_perm (rotL_perm l y) h t
end Go.AM.Tryd
end
section
set_option maxRecDepth 100000
set_option linter.unusedVariables false
set_option linter.unusedSimpArgs false
namespace Go.Proofs.YtdognapppnfpiaaDoor.bridge
open Go Go.AM Go.AM.D Go.AM.Tryd Go.RowKit Go.ChangeShapes Go.WideShapes Go.ChangeAt
theorem contract4 (H : Type) (enc : TypeId × Value → H) (W : World) (base : Nat) (args : Array Value) (ds gs : List (DataW H)) (before : List MemPlace)
    (hval : ∀ (j : Nat) t v, Tryd.f4.params[j]? = some t → args[j]? = some v → Value.okWide Tryd.prog W .any base t v)
    (hW : DataW.Whole enc Tryd.prog Tryd.f4.params.toList Rows.strataOrderSpec.vars false W args.toList ds gs before) (hk : Rows.uptoSmall H (ds ++ gs) = true) :
    Calls Tryd.prog 4 args W fun e W' => ∃ v, e = .returned v ∧ Rows.strataOrderSpec.post enc Tryd.prog Tryd.f4 false true false false W args v W' := by
  have hW' := hW
  have hlt := hW.lt
  obtain ⟨p, q, hA0, hV, rfl, hfz, hnd⟩ := hW
  have hA : DataW.TrodAll enc Tryd.prog W 0 (fun _ => true) true Tryd.f4.params.toList args.toList ds p := hA0
  rw [Tryd.params4] at hA hval
  have hAk := hA
  obtain ⟨v0, vs0, d0, ds0, p0, q0, hargs, rfl, rfl, h0, r0⟩ := trodAll_cons hA
  obtain ⟨v1, vs1, d1, ds1, p1, q1, rfl, rfl, rfl, h1, r1⟩ := trodAll_cons r0
  obtain ⟨rfl, rfl, rfl⟩ := trodAll_nil r1
  obtain rfl : args = #[v0, v1] := by cases args; simp_all
  obtain ⟨rfl, rfl⟩ := trodVars_none hV
  have hv0 := hval 0 22 v0 rfl rfl
  have hv1 := hval 1 3 v1 rfl rfl
  obtain ⟨n0, h0⟩ := h0
  rw [slice_cells Tryd.underlying22 hv0] at h0
  obtain ⟨l, hl, hlen, hlb⟩ := rd_rules h0
  obtain ⟨y, rfl, -, -, -⟩ := open_int Tryd.underlying3 hv1 h1
  have hbulk : Rows.uptoBulkAll ([d0, d1] ++ ([] : List (DataW H))) ≤ 1048576 := of_decide_eq_true hk
  have hb0 : blk d0 ≤ 1048576 := by
    have e : Rows.uptoBulkAll ([d0, d1] ++ ([] : List (DataW H))) = blk d0 + (blk d1 + 0) := by simp only [List.cons_append, List.nil_append, Rows.uptoBulkAll]
    omega
  have hok : okRs l := okRs_of hb0 hlen hlb
  refine (calls_of Tryd.func4 (by kernel_rfl) (by kernel_rfl) (law4_ l y hok (fun _ h t => rot_law l y h t)) (vrs2 hl (.lit _ rfl))).mono fun e W' ⟨he, hb⟩ => ?_
  subst he
  refine ⟨_, rfl, _, _, _, [], p0 ++ (p1 ++ []), [], hW', trodAll_mk1 (shut_bool Tryd.underlying4 _), ?_, rfl, hb.frame _, fun h => by cases h⟩
  rw [Tryd.params4]
  exact trodAll_carry (DataW.TrodAll.respare kids full (by decide +kernel) hAk fun x hx => by simpa using hlt x (by simpa using hx)) fun x hx => hb.same (hlt x (by simpa using hx))
noncomputable def laidW4 (os : Os) : World := World.laidAll Tryd.prog os Rows.strataOrderUptoRow.laid
theorem laid_met4 (os : Os) (args : Array Value) : laidMetH Tryd.prog Rows.strataOrderUptoRow.laid ((laidW4 os).forCall (fun _ _ => 0) ⟨#[], args, []⟩).memory := by
  rw [MakeChecks.laidMetH_plain _ _ _ (by kernel_rfl)]
  exact laidMet_laidAll _ (by kernel_rfl) (by kernel_rfl)
abbrev args4 : Array Value := #[.slice none 0 0, .int .i64 0]
theorem reads4 (os : Os) {H : Type} (enc : TypeId × Value → H) : ∃ places, DataW.whole enc Tryd.prog ((laidW4 os).forCall (fun _ _ => 0) ⟨#[], args4, []⟩).memory Tryd.f4.params.toList Rows.strataOrderSpec.vars false args4.toList 8 = some ([.nil, .lit (.int .i64 0)], [], places) :=
  ⟨[], by kernel_rfl⟩
theorem lifted4 (os : Os) (started : os.Started) (H : Type) (enc : TypeId × Value → H) (F : Stop.Interp) :
    ReturnsInHanded {} Tryd.checked os 4 .any ((Rows.OpenSpec.upto Rows.strataOrderSpec).preRow enc Tryd.prog Tryd.f4 Rows.strataOrderUptoRow.domain false Rows.strataOrderUptoRow.laid) (((Rows.OpenSpec.upto Rows.strataOrderSpec).at F).post enc Tryd.prog Tryd.f4 false true false false) := by
  obtain ⟨places, hx⟩ := reads4 os enc
  refine returnsInHanded_of_row (C := Tryd.checked) (s := Rows.OpenSpec.upto Rows.strataOrderSpec) own started (by kernel_rfl) Tryd.func4
    (witness_row_shaped (enc := enc) (C := Tryd.checked) false (laidW4 os) args4 (World.laidAll_os _ _ _) (World.shaped_of_ZipB (by kernel_rfl) (by kernel_rfl)) (by kernel_rfl)
      (OpenSpec.preRow_of_cond 8 hx (by kernel_rfl) (fun k hk => by cases hk; kernel_rfl) (by kernel_rfl) (laid_met4 os _))) ?_
  intro W base args ds gs before hval hW _ hcond _ hL _ _
  exact contract4 H enc W base args ds gs before hval hW (hcond _ rfl)
theorem said4 : Rows.StrataOrderUptoSaid :=
  OpenClaim.holds_of_cond 4 Tryd.f4 rfl rfl rfl rfl rfl rfl rfl ⟨rfl, rfl, rfl, rfl, rfl⟩ rfl rfl rfl rfl rfl (by kernel_rfl) Tryd.func4 (by kernel_rfl)
    (of_decide_eq_true (by kernel_rfl)) (by unfold Func.isWrapper; first | (rw [if_pos (by decide +kernel)]; kernel_rfl) | (rw [if_neg (by decide +kernel)]; exact ⟨rfl, rfl⟩))
    (fun os started H enc _ F => by rw [OpenClaim.pre_eq_preRow]; exact lifted4 os started H enc F)
theorem plain4 (f : FuncId) (fn : Func) (hf : Tryd.pinned.checked.prog.funcNamed "rhizome/rhizomelaw10.StrataOrder" = some f) (hfn : Tryd.pinned.checked.prog.funcs[f]? = some fn) :
    false = Tryd.pinned.checked.prog.looks [] ∧ ∀ (j : Nat) t, fn.params[j]? = some t → Tryd.pinned.checked.prog.wantsStandIn t = false := by
  obtain rfl : f = 4 := Option.some.inj ((show Tryd.prog.funcNamed "rhizome/rhizomelaw10.StrataOrder" = some 4 by kernel_rfl).symm.trans hf) |>.symm
  obtain rfl : fn = Tryd.f4 := (Option.some.inj (Tryd.func4.symm.trans hfn)).symm
  refine ⟨by kernel_rfl, fun j t ht => ?_⟩
  rw [Tryd.params4] at ht
  have hm : t ∈ [22, 3] := by simpa using Array.mem_of_getElem? ht
  have hall : ([22, 3].all fun u => !Tryd.prog.wantsStandIn u) = true := by kernel_rfl
  exact (show Tryd.prog.wantsStandIn t = false by simpa using List.all_eq_true.1 hall t hm)
theorem card4 : Rows.StrataOrderUptoCardSaid :=
  Claim7.holds_tied_plain_at .later [] _ _ _ _ said4 (fun _ h => by cases h) (by kernel_rfl) (fun _ h => by cases h) strataOrderUpto_row_tie rfl ⟨rfl, rfl⟩ (by kernel_rfl) rfl plain4 (by kernel_rfl)
end Go.Proofs.YtdognapppnfpiaaDoor.bridge
namespace Go.Proofs.YtdognapppnfpiaaDoor
theorem strataOrderUpto_proved : Rows.StrataOrderUptoCardSaid := bridge.card4
end Go.Proofs.YtdognapppnfpiaaDoor
end
