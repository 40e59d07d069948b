/- A part of the proof: walks of the code and laws that they use (Wr, Am19, Na, Ws, Nb, Wt, Nc, Nd, Wu, Ne, Wv, Nf, Ng, Ww, Wx, Nh, Wy, Ni, Wz, Nj, W4). Conditions: as each theorem names them. -/
import Derived.Test.YtdognapppnfpiaaGreatDoorC11
section
set_option maxRecDepth 100000
set_option maxHeartbeats 4000000
set_option linter.unusedVariables false
set_option linter.unusedSimpArgs false
namespace Go.AM.Tryd
open Go Go.AM Go.AM.D
structure Mode where
  eq : Bool
def eMode (o : Mode) : List AV := [.lit (.bool o.eq)]
def firstB : List Rule → Int
  | [] => 0
  | r :: l => if ruleU r ≠ 0 then ruleU r else firstB l
def nvB : List Lt → Bool
  | [] => false
  | x :: b => if (decide (x.kind = 2) && decide (x.pat.b.var ≠ ⟨#[]⟩)) = true then true else nvB b
def progS (all : List Rule) (not : Bool) : Nat → List Rule → Int → Int
  | _, [], bad => bad
  | i, r :: l, bad => if (not && decide (r.head.b.var ≠ ⟨#[]⟩)) = true then 5 else if nvB r.body = true then 5 else progS all not (i + 1) l (if (decide (bad = 0) && (all.take i).any (fun o => sameP o r)) = true then 8 else bad)
def progU (l : List Rule) : Int := if firstB l ≠ 0 then firstB l else if progS l (negF l) 0 l 0 ≠ 0 then progS l (negF l) 0 l 0 else if (l.length : Int) > 1000 then 9 else 0
def modeU (l : List Rule) : Bool := if progU l ≠ 0 then false else !(negF l)
theorem firstB_step {l : List Rule} (h : firstB l = 0) : progU l = if progS l (negF l) 0 l 0 ≠ 0 then progS l (negF l) 0 l 0 else if (l.length : Int) > 1000 then 9 else 0 := by
  rw [progU, if_neg (by simp [h])]
theorem uprog_ (l : List Rule) (hl : okRs l) : PFn PR (.fn (.func 11) [] []) [.sl .any 13 (l.map eRule)] (.tup [.agg (eMode ⟨modeU l⟩), .lit (.int .i64 (progU l))]) := by
  have hl1 := hl.1
  refine PFn_ofG Go.Proofs.Tryz.func11 rfl (by rfl) Go.Proofs.Tryz.ntmps11 rfl (by simp) fun h => ?_
  refine AW_x [] [] ?_
  refine AL_alloc rfl rfl rfl rfl z72 fun b hb => ?_
  have hle0 : h.le (h.upd b (some (.row zs72))) := Heap.le_upd (.refl h) hb _
  refine AL_x [] [] 1 ?_
  refine AW_scope (l := 0) (fun _ => False) rfl ?_ (fun _ hF => hF.elim)
  refine AW_x [(10, 0)] [] ?_
  refine ⟨L22, _, lm, ?_⟩
  refine AW_it [] [] [(0, _), (2, _), (3, _), (13, _), (14, _)] (fun (i : Nat) => [(15, .lit (.int .i64 ((i : Nat) : Int)))]) (fun (i : Nat) => (h.upd b (some (.row zs72)))) (fun (i : Nat) => i ≤ l.length ∧ firstB l = firstB (l.drop i)) (fun (i : Nat) => l.length - i) (0) ⟨rfl, rfl, rfl, rfl, rfl, trivial⟩ ⟨rfl, trivial⟩ rfl (⟨by omega, rfl⟩) ?_
  rintro i ⟨hIi, hSi⟩
  refine brD (fun hc0 => ?_) (fun hc0 => ?_)
  · skip
    obtain ⟨r, hrr, hdr, hmr⟩ := drop_at (l := l) (i := i) (by omega)
    rw [hdr, firstB] at hSi
    have hokr := hl.2 r hmr
    refine ⟨L22, _, ⟨rfl, (by first | decide | omega), (mget hrr)⟩, T46, ?_⟩
    refine AL_als rfl rfl rfl rfl rfl rfl al46 rfl rfl rfl rfl rfl ?_
    refine AL_nil ?_
    refine ⟨T46, _, (urule_ _ (by first | assumption)), brD (fun hc5 => ?_) (fun hc5 => ?_)⟩
    · skip
      rw [if_pos hc5] at hSi
      have hw : progU l = ruleU r := by rw [progU, hSi, if_pos hc5]
      have hm : modeU l = false := by rw [modeU, if_pos (by rw [hw]; exact hc5)]
      refine ⟨(.agg (eMode (⟨false⟩ : Mode))), PO_build rfl z72 pl72 rfl rfl, ?_⟩
      refine AL_store (b := b) (off := 0) (cs := zs72) (v := .agg (eMode ⟨false⟩)) rfl rfl rfl ty72 rfl rfl (Heap.upd_same _ _ _) rfl rfl (by simp) ?_
      refine AL_x [] [] 3 ?_
      refine AW_ret ?_
      exact ret_G (.inl rfl) (Results.two rfl ty72 rfl (Heap.upd_same _ _ _) rfl rfl) (by rw [hw, hm]; rfl) (Heap.le_upd hle0 hb _) (by simp)
    · skip
      rw [if_neg hc5] at hSi
      refine ⟨_, f1 (by first | omega | (simp_all <;> omega)), ?_⟩
      exact ⟨i + 1, ⟨by omega, hSi⟩, by omega, ⟨rfl, ⟨rfl, rfl, rfl, rfl, rfl, rfl, trivial⟩, rfl, rfl, rfl⟩⟩
  · skip
    rw [drop_end (l := l) (i := i) (by omega), firstB] at hSi
    have hw := firstB_step hSi
    refine ⟨_, (neg30_ _ (by assumption)), ?_⟩
    refine AW_join (α := Int) (fun (bad : Int) => [(8, .lit (.int .i64 bad)), (0, .sl .any 13 (l.map eRule)), (2, .ptr b 0), (3, .lit (.int .i64 0)), (7, .lit (.bool (negF l)))]) (fun (bad : Int) => (h.upd b (some (.row zs72)))) (fun (bad : Int) => progS l (negF l) 0 l 0 = bad) ?_ ?_
    · skip
      refine AW_x [] [] ?_
      refine ⟨L22, _, lm, ?_⟩
      refine AW_it [] [] [(0, _), (2, _), (3, _), (7, _), (28, _), (29, _)] (fun (z_ : Nat × Int) => match z_ with | (j, bad) => [(30, .lit (.int .i64 ((j : Nat) : Int))), (8, .lit (.int .i64 bad))]) (fun (z_ : Nat × Int) => match z_ with | (j, bad) => (h.upd b (some (.row zs72)))) (fun (z_ : Nat × Int) => match z_ with | (j, bad) => j ≤ l.length ∧ progS l (negF l) 0 l 0 = progS l (negF l) j (l.drop j) bad) (fun (z_ : Nat × Int) => match z_ with | (j, bad) => l.length - j) ((0, 0)) ⟨rfl, rfl, rfl, rfl, rfl, rfl, trivial⟩ ⟨rfl, rfl, trivial⟩ rfl (⟨by omega, rfl⟩) ?_
      rintro ⟨j, bad⟩ ⟨hIi, hSi⟩
      refine brD (fun hc11 => ?_) (fun hc11 => ?_)
      · skip
        obtain ⟨r, hrr, hdr, hmr⟩ := drop_at (l := l) (i := j) (by omega)
        rw [hdr, progS] at hSi
        have hokr := hl.2 r hmr
        have hbl := hokr.2.1
        refine ⟨L22, _, ⟨rfl, (by first | decide | omega), (mget hrr)⟩, T46, ?_⟩
        refine AL_alloc rfl rfl rfl rfl z46 fun b2 hb2 => ?_
        refine AL_x [] [] 4 ?_
        refine AL_storeF (v := .agg (eRule r)) rfl rfl rfl ty46 rfl rfl hb2 rfl rfl rfl ?_
        refine AL_nil ?_
        refine ⟨_, fun hg36 => ⟨F46_0, A43, by decide, F41_0, T9, rfl⟩, fun hc13 => ?_, fun hc13 => ?_⟩
        · skip
          rw [if_pos hc13] at hSi
          exact ⟨5, hSi, ⟨rfl, ⟨rfl, rfl, rfl, rfl, rfl, trivial⟩, rfl, rfl, rfl⟩⟩
        · skip
          rw [if_neg (by rw [hc13]; simp)] at hSi
          refine ⟨F46_1, T44, L44, _, lm, ?_⟩
          refine AW_it [] [] [(30, _), (8, _), (0, _), (2, _), (3, _), (7, _), (28, _), (29, _), (10, _), (9, _), (44, _), (45, _)] (fun (k : Nat) => [(46, .lit (.int .i64 ((k : Nat) : Int)))]) (fun (k : Nat) => (h.upd b (some (.row zs72)))) (fun (k : Nat) => k ≤ r.body.length ∧ nvB r.body = nvB (r.body.drop k)) (fun (k : Nat) => r.body.length - k) (0) ⟨rfl, rfl, rfl, rfl, rfl, rfl, rfl, rfl, rfl, rfl, rfl, rfl, trivial⟩ ⟨rfl, trivial⟩ rfl (⟨by omega, rfl⟩) ?_
          rintro k ⟨hIk, hSk⟩
          refine brD (fun hc4 => ?_) (fun hc4 => ?_)
          · skip
            obtain ⟨x, hrx, hdx, hmx⟩ := drop_at (l := r.body) (i := k) (by omega)
            rw [hdx, nvB] at hSk
            refine ⟨L44, _, ⟨rfl, (by first | decide | omega), (mget hrx)⟩, T68, ?_⟩
            refine AL_als rfl rfl rfl rfl rfl rfl al68 rfl rfl rfl rfl rfl ?_
            refine AL_nil ?_
            refine ⟨F68_0, T66, _, fun hg53 => ⟨F68_1, A43, by decide, F41_0, T9, rfl⟩, fun hc18 => ?_, fun hc18 => ?_⟩
            · skip
              rw [if_pos hc18] at hSk
              rw [if_pos hSk] at hSi
              exact ⟨5, hSi, ⟨rfl, ⟨rfl, rfl, rfl, rfl, rfl, trivial⟩, rfl, rfl, rfl⟩⟩
            · skip
              rw [if_neg (by rw [hc18]; simp)] at hSk
              refine ⟨_, f1 (by first | omega | (simp_all <;> omega)), ?_⟩
              exact ⟨k + 1, ⟨by omega, hSk⟩, by omega, ⟨rfl, ⟨rfl, rfl, rfl, rfl, rfl, rfl, rfl, rfl, rfl, rfl, rfl, rfl, rfl, trivial⟩, rfl, rfl, rfl⟩⟩
          · skip
            rw [drop_end (l := r.body) (i := k) (by omega), nvB] at hSk
            rw [hSk, if_neg (by simp)] at hSi
            refine ⟨_, fun hg63 => ⟨(.sl .any 13 ((l.take j).map eRule)), PO_any (PO_slice_M (i := 0) (j := ((j : Nat) : Int)) rfl un22 ty46 rfl rfl rfl (by omega) (by omega) (by omega)) (by simp), (.fn (.func 31) [] [.ip (eRule r)]), PO_makeFunc rfl rfl rfl, _, (has36_ _ (fun o => sameP o r) (l.take j) (by rw [List.length_take]; omega) (fun o ho => prog37_ r o (hl.2 o (List.mem_of_mem_take ho)))), rfl⟩, fun hc21 => ?_, fun hc21 => ?_⟩
            · skip
              rw [if_pos hc21] at hSi
              refine ⟨_, f1 (by first | omega | (simp_all <;> omega)), ?_⟩
              exact ⟨(j + 1, 8), ⟨by omega, hSi⟩, by simp only []; omega, ⟨rfl, ⟨rfl, rfl, rfl, rfl, rfl, rfl, rfl, rfl, trivial⟩, rfl, rfl, rfl⟩⟩
            · skip
              rw [if_neg (by rw [hc21]; simp)] at hSi
              refine ⟨_, f1 (by first | omega | (simp_all <;> omega)), ?_⟩
              exact ⟨(j + 1, bad), ⟨by omega, hSi⟩, by simp only []; omega, ⟨rfl, ⟨rfl, rfl, rfl, rfl, rfl, rfl, rfl, rfl, trivial⟩, rfl, rfl, rfl⟩⟩
      · skip
        rw [drop_end (l := l) (i := j) (by omega), progS] at hSi
        exact ⟨bad, hSi, ⟨rfl, ⟨rfl, rfl, rfl, rfl, rfl, trivial⟩, rfl, rfl, rfl⟩⟩
    · rintro bad hS
      refine AW_x [] [] ?_
      refine brD (fun hc24 => ?_) (fun hc24 => ?_)
      · skip
        rw [hS, if_pos hc24] at hw
        have hm : modeU l = false := by rw [modeU, if_pos (by rw [hw]; exact hc24)]
        refine ⟨(.agg (eMode (⟨false⟩ : Mode))), PO_build rfl z72 pl72 rfl rfl, ?_⟩
        refine AL_store (b := b) (off := 0) (cs := zs72) (v := .agg (eMode ⟨false⟩)) rfl rfl rfl ty72 rfl rfl (Heap.upd_same _ _ _) rfl rfl (by simp) ?_
        refine AL_x [] [] 3 ?_
        refine AW_ret ?_
        exact ret_G (.inl rfl) (Results.two rfl ty72 rfl (Heap.upd_same _ _ _) rfl rfl) (by rw [hw, hm]; rfl) (Heap.le_upd hle0 hb _) (by simp)
      · skip
        rw [hS, if_neg hc24] at hw
        refine ⟨L22, _, lm, brD (fun hc26 => ?_) (fun hc26 => ?_)⟩
        · skip
          rw [if_pos hc26] at hw
          have hm : modeU l = false := by rw [modeU, if_pos (by rw [hw]; simp)]
          refine ⟨(.agg (eMode (⟨false⟩ : Mode))), PO_build rfl z72 pl72 rfl rfl, ?_⟩
          refine AL_store (b := b) (off := 0) (cs := zs72) (v := .agg (eMode ⟨false⟩)) rfl rfl rfl ty72 rfl rfl (Heap.upd_same _ _ _) rfl rfl (by simp) ?_
          refine AL_x [] [] 2 ?_
          refine AW_ret ?_
          exact ret_G (.inl rfl) (Results.two rfl ty72 rfl (Heap.upd_same _ _ _) rfl rfl) (by rw [hw, hm]; rfl) (Heap.le_upd hle0 hb _) (by simp)
        · skip
          rw [if_neg hc26] at hw
          have hm : modeU l = !(negF l) := by rw [modeU, if_neg (by rw [hw]; simp)]
          refine ⟨(.agg (eMode (⟨!(negF l)⟩ : Mode))), PO_build rfl z72 pl72 rfl rfl, ?_⟩
          refine AL_store (b := b) (off := 0) (cs := zs72) (v := .agg (eMode ⟨!(negF l)⟩)) rfl rfl rfl ty72 rfl rfl (Heap.upd_same _ _ _) rfl rfl (by simp) ?_
          refine AL_x [] [] 4 ?_
          refine AW_ret ?_
          exact ret_G (.inl rfl) (Results.two rfl ty72 rfl (Heap.upd_same _ _ _) rfl rfl) (by rw [hw, hm]; rfl) (Heap.le_upd hle0 hb _) (by simp)
end Go.AM.Tryd
end
section
set_option linter.unusedVariables false
set_option linter.unusedSimpArgs false
namespace Go.AM
open Go.RowKit Go.AM.D
def ints (ns : List Int) : List AV := ns.map fun n => .lit (.int .i64 n)
theorem ints_len (ns : List Int) : (ints ns).length = ns.length := by simp [ints]
theorem ints_set {ns : List Int} {k : Nat} {v : Int} (h : k < ns.length) : setCells (ints ns) k [.lit (.int .i64 v)] = ints (ns.set k v) := by
  simp only [setCells, ints, List.length_singleton, ← List.map_take, ← List.map_drop]
  rw [List.set_eq_take_append_cons_drop, if_pos h]
  simp
theorem ints_zero (c : Nat) : azeros [.lit (.int .i64 0)] c = ints (List.replicate c 0) := by
  simp only [azeros, ints]
  induction c with
  | zero => rfl
  | succ c ih => simp only [List.replicate_succ, List.flatten_cons, ih]; rfl
theorem ints_get {ns : List Int} {k : Nat} (h : k < ns.length) : (ints ns)[k]? = some (.lit (.int .i64 (ns.getD k 0))) := by
  simp [ints, List.getD_eq_getElem?_getD, List.getElem?_eq_getElem h]
section
variable {P : Program} {ρ : Option Nat} {Q : Exit → AS → Prop} {o : Oper} {ops : Array Oper} {l : List Oper} {n d : Nat} {tm : List (Nat × AV)} {h h0 : Heap} {ms : List Nat} {σ : AS}
theorem PO_ixn {x ix : Operand} {t e : TypeId} {b len cap : Nat} {k : IntKind} {i : Int} {d : TypeDesc} (ho : o.op = .indexAddr t x ix) (ht : P.underlying t = some (.slice e)) (he : TyF P e d 1)
    (hx : ev σ.tm x = some (.ms b 0 1 len cap)) (hi : ev σ.tm ix = some (.lit (.int k i))) (h0 : 0 ≤ i) (h1 : i < len) : PO P ρ o σ (.ptr b i.toNat) := by
  have := PO_indexAddr_ms (ρ := ρ) ho ht he hx hi h0 h1
  rwa [Nat.zero_add, Nat.mul_one] at this
theorem PO_ixj {x ix : Operand} {t e : TypeId} {b len cap : Nat} {k : IntKind} {j : Nat} {d : TypeDesc} (ho : o.op = .indexAddr t x ix) (ht : P.underlying t = some (.slice e)) (he : TyF P e d 1)
    (hx : ev σ.tm x = some (.ms b 0 1 len cap)) (hi : ev σ.tm ix = some (.lit (.int k (j : Nat)))) (h1 : j < len) : PO P ρ o σ (.ptr b j) := by
  have := PO_ixn (ρ := ρ) ho ht he hx hi (by omega) (by omega)
  rwa [Int.toNat_natCast] at this
theorem PO_ldn {x : Operand} {t : TypeId} {b j : Nat} {ns : List Int} (ho : o.op = .load t x) (ht : TyF P t (.int .i64) 1) (hx : ev σ.tm x = some (.ptr b j)) (hb : σ.h b = some (.row (ints ns))) (hj : j < ns.length) : PO P ρ o σ (.lit (.int .i64 (ns.getD j 0))) :=
  PO_load_row ho ht hx hb (by
    have e : (ints ns).drop j = .lit (.int .i64 (ns.getD j 0)) :: (ints ns).drop (j + 1) := by
      have hj' : j < (ints ns).length := by rw [ints_len]; exact hj
      rw [List.drop_eq_getElem_cons hj']
      have := ints_get hj
      rw [List.getElem?_eq_getElem hj'] at this
      rw [Option.some.inj this]
    rw [e]; rfl)
theorem AL_stn {x y : Operand} {t : TypeId} {b j : Nat} {ns : List Int} {v : Int} (hg : o.guard = none) (hdst : o.dst = none) (ho : o.op = .store t x y) (ht : TyF P t (.int .i64) 1) (hx : ev tm x = some (.ptr b j)) (hy : ev tm y = some (.lit (.int .i64 v))) (hj : j < ns.length)
    (k : AL P ρ ops l Q ⟨n, tm, h.upd b (some (.row (ints (ns.set j v)))), ms, h0⟩) : AL P ρ ops (o :: l) Q ⟨n, tm, h.upd b (some (.row (ints ns))), ms, h0⟩ := by
  refine AL_store hg hdst ho ht hx hy (Heap.upd_same _ _ _) rfl rfl (by rw [ints_len]; omega) ?_
  rw [show acells (.lit (.int .i64 v)) = [.lit (.int .i64 v)] from rfl, ints_set hj, Heap.upd_upd]
  exact k
theorem AL_mkn {t e : TypeId} {by_ : Nat} {x y : Operand} {c : Nat} {k k' : IntKind} (hg : o.guard = none) (hdst : o.dst = some d) (hd : Nat.blt d n = true) (ho : o.op = .makeSlice t x y) (ht : P.underlying t = some (.slice e)) (he : TyF P e (.int .i64) 1) (hz : ZeroF P e [.lit (.int .i64 0)])
    (hb : (P.info? e).map (·.bytes) = some by_) (hx : ev tm x = some (.lit (.int k (c : Nat)))) (hy : ev tm y = some (.lit (.int k' (c : Nat)))) (hlim : by_ * c ≤ 281474976710656) (hc : c ≤ 9223372036854775807)
    (kk : ∀ b, h b = none → AL P ρ ops l Q ⟨n, (d, .ms b 0 1 c c) :: tm, h.upd b (some (.row (ints (List.replicate c 0)))), ms, h0⟩) : AL P ρ ops (o :: l) Q ⟨n, tm, h, ms, h0⟩ :=
  AL_makeSl hg hdst hd ho ht he hz rfl hb hx hy hlim hc fun b hb => by rw [ints_zero]; exact kk b hb
theorem AW_frzn {c : Code} {b len cap k : Nat} {ns : List Int} (hk : look tm k = some (.ms b 0 1 len cap)) (hb : h b = none) (hl : ns.length = len) (hc : len ≤ cap) (kk : AW P ρ c Q ⟨n, (k, .sl .any 1 (ns.map eI64)) :: tm, h, ms, h0⟩) : AW P ρ c Q ⟨n, tm, h.upd b (some (.row (ints ns))), ms, h0⟩ := by
  refine AW_ghost (σ' := ⟨n, (k, .sl .any 1 (ns.map eI64)) :: tm, (h.upd b (some (.row (ints ns)))).upd b none, ms, h0⟩) (ghost_ms (es := ns.map eI64) hk (Heap.upd_same _ _ _) (by simpa using hl) (by simp [eI64]) (fun i e j a h1 h2 => ?_) hc) (by rw [Heap.upd_none hb]; exact kk)
  rw [List.getElem?_map, Option.map_eq_some_iff] at h1
  obtain ⟨x, hx, rfl⟩ := h1
  have hj : j = 0 := by
    have := (List.getElem?_eq_some_iff.1 h2).1
    simp [eI64] at this; exact this
  subst hj
  simp only [eI64, List.getElem?_cons_zero, Option.some.injEq] at h2
  subst h2
  simp [ints, hx]
theorem ixj {j len : Nat} (h : j < len) : (1 : Nat) = 1 ∧ 0 ≤ ((j : Nat) : Int) ∧ ((j : Nat) : Int) < len ∧ 0 + ((j : Nat) : Int).toNat * 1 = j := ⟨rfl, by omega, by omega, by omega⟩
theorem ixn {i : Int} {len : Nat} (h0 : 0 ≤ i) (h1 : i < len) : (1 : Nat) = 1 ∧ 0 ≤ i ∧ i < len ∧ 0 + i.toNat * 1 = i.toNat := ⟨rfl, h0, h1, by omega⟩
theorem ldn {j : Nat} {ns : List Int} (hj : j < ns.length) : loaded (.int .i64) 1 ((ints ns).drop j) = some (.lit (.int .i64 (ns.getD j 0))) := by
  simp only [loaded, isAggD, List.head?_drop]
  exact ints_get hj
/-! ### Slices that grow, each with a row of its own -/
def Toks (S : Nat) (hp h0 : Heap) (os : List (Own × Nat)) : Prop :=
  (∀ (i : Nat) (o : Own) (m : Nat), os[i]? = some (o, m) → (o = .nil ∧ m = 0) ∨ ∃ b : Nat, o = .tok b ∧ hp b = some (.tok m S) ∧ h0 b = none) ∧
  ∀ (i j b m m' : Nat), os[i]? = some (.tok b, m) → os[j]? = some (.tok b, m') → i = j
def Same (hp hq : Heap) : Prop := ∀ b o, hp b = some o → (∀ m S, o ≠ .tok m S) → hq b = some o
theorem Same.refl (hp : Heap) : Same hp hp := fun _ _ e _ => e
theorem Same.trans {a b c : Heap} (h : Same a b) (k : Same b c) : Same a c := fun x o e hn => k x o (h x o e hn) hn
theorem Same.row {a b : Heap} (h : Same a b) {x : Nat} {cs : List AV} (e : a x = some (.row cs)) : b x = some (.row cs) := h x _ e fun _ _ e => by cases e
theorem Same.map {a b : Heap} (h : Same a b) {x : Nat} {ks : List CK} {g : Bool} {es : List (List Value × AV)} (e : a x = some (.map ks g es)) : b x = some (.map ks g es) := h x _ e fun _ _ e => by cases e
theorem Toks.le {S : Nat} {hp hq h0 : Heap} {os : List (Own × Nat)} (h : Toks S hp h0 os) (hk : ∀ b m, hp b = some (.tok m S) → hq b = some (.tok m S)) : Toks S hq h0 os :=
  ⟨fun i o m e => (h.1 i o m e).imp id fun ⟨b, h1, h2, h3⟩ => ⟨b, h1, hk b m h2, h3⟩, h.2⟩
theorem Toks.upd {S : Nat} {hp h0 : Heap} {os : List (Own × Nat)} (h : Toks S hp h0 os) {b : Nat} {x : Option AObj} (hb : ∀ m S, hp b ≠ some (.tok m S)) : Toks S (hp.upd b x) h0 os :=
  h.le fun q m e => by rw [Heap.upd_other _ (fun e2 => by subst e2; exact hb _ _ e)]; exact e
theorem MO_appT {α : Type} {f : α → List AV} {acc ys : List α} {s x : Operand} {t tx e e' : TypeId} {S S' bytes i : Nat} {dd : TypeDesc} {zs : List AV} {own own' : Own} {os : List (Own × Nat)} (ho : o.op = .call { callee := .builtin .append, args := #[s, x], argTypes := #[t, tx] })
    (ht : P.underlying t = some (.slice e)) (htx : P.underlying tx = some (.slice e')) (he : TyF P e dd S) (hz : ZeroF P e zs) (hzl : zs.length = S) (hb : (P.info? e).map (·.bytes) = some bytes)
    (hse : ev tm s = some (.sl own S' (acc.map f))) (hxe : ev tm x = some (.sl own' S (ys.map f))) (hS : S' = S ∨ acc = []) (hpos : 0 < ys.length)
    (hT : Toks S h h0 os) (hi : os[i]? = some (own, acc.length)) (hle : h0.le h) (hlim : (acc.length + ys.length) * bytes ≤ 140737488355328) (h63 : acc.length + ys.length ≤ 9223372036854775807) :
    MO P ρ o ⟨n, tm, h, ms, h0⟩ (fun u h' => ∃ own2, u = .sl own2 S ((acc ++ ys).map f) ∧ Toks S h' h0 (os.set i (own2, (acc ++ ys).length)) ∧ h0.le h' ∧ Same h h') := by
  have hown : own = .nil ∨ own = .full ∨ ∃ b, own = .tok b ∧ h b = some (.tok (acc.map f).length S) := by
    rcases hT.1 i _ _ hi with ⟨e, -⟩ | ⟨b, e, e2, -⟩
    · exact .inl e
    · exact .inr (.inr ⟨b, e, by simpa using e2⟩)
  intro g I a w hs
  refine wpIn_oper_mono (MO_append (ρ := ρ) (σ := ⟨n, tm, h, ms, h0⟩) ho ht htx he hz hzl hb hse hxe (hS.imp id fun e => by rw [e]; rfl) (by simpa using hpos) hown (by simpa using hlim) (by simpa using h63) g I a w hs) ?_ fun _ _ _ h => h
  rintro a' w' ⟨I', u, v, h', h1, h2, h3, h4, b, hb', hv, hh⟩
  simp only [List.length_map] at hh
  have hb0 : h0 b = none := by
    rcases hb' with hb' | hb'
    · exact Heap.none_of hle hb'
    · rcases hT.1 i _ _ hi with ⟨e, -⟩ | ⟨c, e, -, e3⟩
      · rw [e] at hb'; cases hb'
      · rw [e] at hb'; injection hb' with hb'; rw [← hb']; exact e3
  -- what h' says of the other blocks
  have hoth : ∀ q, q ≠ b → (∀ c, own = .tok c → q ≠ c) → h' q = h q := by
    intro q hq hqc
    rw [hh, Heap.upd_other _ hq]
    cases hown' : own with
    | tok c => rw [delOwn, Heap.upd_other _ (hqc c hown')]
    | _ => rfl
  have hat : h' b = some (.tok (acc.length + ys.length) S) := by rw [hh, Heap.upd_same]
  -- the token's block holds a token
  have htok : ∀ c, own = .tok c → h c = some (.tok acc.length S) ∧ h0 c = none := by
    intro c hc
    rcases hT.1 i _ _ hi with ⟨e, -⟩ | ⟨c', e, e2, e3⟩
    · rw [e] at hc; cases hc
    · rw [e] at hc; injection hc with hc; subst hc; exact ⟨e2, e3⟩
  refine ⟨I', u, v, h', h1, h2, h3, h4, .tok b, by rw [hv, List.map_append], ⟨fun j o m e => ?_, fun j k c m m' e1 e2 => ?_⟩, fun q x e => ?_, fun q x e hn => ?_⟩
  · rw [List.getElem?_set] at e
    split at e
    · split at e
      · injection e with e; injection e with e1 e2; subst e1; subst e2
        refine .inr ⟨b, rfl, by rw [hat, List.length_append], hb0⟩
      · cases e
    · rename_i hne
      rcases hT.1 j o m e with h5 | ⟨c, h5, h6, h7⟩
      · exact .inl h5
      · refine .inr ⟨c, h5, ?_, h7⟩
        rw [hoth c ?_ ?_]; exact h6
        · intro hcb
          subst hcb
          rcases hb' with hb' | hb'
          · rw [show (AS.h ⟨n, tm, h, ms, h0⟩) c = h c from rfl, h6] at hb'; cases hb'
          · exact hne (hT.2 i j c _ _ (by rw [hi, hb']) (by rw [e, h5]))
        · intro c' hc' hcc
          subst hcc
          exact hne (hT.2 i j c _ _ (by rw [hi, hc']) (by rw [e, h5]))
  · rw [List.getElem?_set] at e1 e2
    by_cases hj : i = j
    · by_cases hk : i = k
      · omega
      · rw [if_pos hj] at e1; rw [if_neg hk] at e2
        split at e1
        · injection e1 with e1; injection e1 with e1 _; injection e1 with e1; subst e1
          rcases hT.1 k _ _ e2 with ⟨e, -⟩ | ⟨c, e, e3, -⟩
          · cases e
          · injection e with e; subst e
            rcases hb' with hb' | hb'
            · rw [show (AS.h ⟨n, tm, h, ms, h0⟩) b = h b from rfl, e3] at hb'; cases hb'
            · exact absurd (hT.2 i k b _ _ (by rw [hi, hb']) e2) hk
        · cases e1
    · rw [if_neg hj] at e1
      by_cases hk : i = k
      · rw [if_pos hk] at e2
        split at e2
        · injection e2 with e2; injection e2 with e2 _; injection e2 with e2; subst e2
          rcases hT.1 j _ _ e1 with ⟨e, -⟩ | ⟨c, e, e3, -⟩
          · cases e
          · injection e with e; subst e
            rcases hb' with hb' | hb'
            · rw [show (AS.h ⟨n, tm, h, ms, h0⟩) b = h b from rfl, e3] at hb'; cases hb'
            · exact absurd (hT.2 i j b _ _ (by rw [hi, hb']) e1) hj
        · cases e2
      · rw [if_neg hk] at e2; exact hT.2 j k c m m' e1 e2
  · have hq1 : q ≠ b := fun e2 => by subst e2; rw [hb0] at e; cases e
    rw [hoth q hq1 (fun c hc e2 => by subst e2; rw [(htok _ hc).2] at e; cases e)]
    exact hle q x e
  · have hq1 : q ≠ b := fun e2 => by
      subst e2
      rcases hb' with hb' | hb'
      · rw [show (AS.h ⟨n, tm, h, ms, h0⟩) q = h q from rfl, e] at hb'; cases hb'
      · rw [(htok _ hb').1] at e; injection e with e; exact hn _ _ e.symm
    rw [hoth q hq1 (fun c hc e2 => by subst e2; rw [(htok _ hc).1] at e; injection e with e; exact hn _ _ e.symm)]
    exact e
structure Gs (α : Type) where
  own : Own
  S : Nat
  l : List α
def Gs.cell {α : Type} (f : α → List AV) (p : Gs α) : AV := .sl p.own p.S (p.l.map f)
def Gs.ow {α : Type} (p : Gs α) : Own × Nat := (p.own, p.l.length)
structure Forest {α : Type} (f : α → List AV) (S : Nat) (hp h0 : Heap) (bo : Nat) (fo : List (Gs α)) : Prop where
  row : hp bo = some (.row (fo.map (Gs.cell f)))
  toks : Toks S hp h0 (fo.map Gs.ow)
  sz : ∀ p ∈ fo, p.S = S ∨ p.l = []
theorem gs_set {α : Type} {f : α → List AV} {fo : List (Gs α)} {i : Nat} {p : Gs α} (h : i < fo.length) : setCells (fo.map (Gs.cell f)) i [p.cell f] = (fo.set i p).map (Gs.cell f) := by
  simp only [setCells, List.length_singleton, ← List.map_take, ← List.map_drop]
  rw [List.set_eq_take_append_cons_drop, if_pos h]
  simp
theorem gs_load {α : Type} {f : α → List AV} {fo : List (Gs α)} {i : Nat} {p : Gs α} (h : fo[i]? = some p) {dd : TypeDesc} (hd : isAggD dd = false) : loaded dd 1 ((fo.map (Gs.cell f)).drop i) = some (p.cell f) := by
  obtain ⟨hi, rfl⟩ := List.getElem?_eq_some_iff.1 h
  rw [← List.map_drop, List.drop_eq_getElem_cons hi, List.map_cons]
  unfold loaded
  rw [hd]
  rfl
theorem ghost_rowW {b : Nat} {ds ds' : List AV} (hb : h b = some (.row ds)) (hl : ds.length = ds'.length) (hf : ∀ (i : Nat) (x y : AV), ds[i]? = some x → ds'[i]? = some y → (AV.cell x = true → AV.cell y = true) ∧ ∀ I v, VR I x v → VR I y v) :
    Ghost ⟨n, tm, h, ms, h0⟩ ⟨n, tm, h.upd b (some (.row ds')), ms, h0⟩ := by
  intro g I a w hs
  obtain ⟨hbase, arr, e, hw, hsz, hcl, hvr, hfree⟩ := hs.wr.obj b _ hb
  have hget : ∀ (i : Nat) (y : AV), ds'[i]? = some y → ∃ x, ds[i]? = some x ∧ (AV.cell x = true → AV.cell y = true) ∧ ∀ I v, VR I x v → VR I y v := fun i y hy => by
    have hi : i < ds.length := by rw [hl]; exact (List.getElem?_eq_some_iff.1 hy).1
    exact ⟨_, List.getElem?_eq_getElem hi, hf i _ y (List.getElem?_eq_getElem hi) hy⟩
  exact ⟨I, hs.setObj b (.row ds') hbase ⟨arr, e, hw, by omega, fun y hy => by
    obtain ⟨i, hi, rfl⟩ := List.mem_iff_getElem.1 hy
    obtain ⟨x, hx, h1, -⟩ := hget i _ (List.getElem?_eq_getElem hi)
    exact h1 (hcl x (List.mem_of_getElem? hx)), fun i y hy => by
    obtain ⟨x, hx, -, h2⟩ := hget i y hy
    exact h2 _ _ (hvr i x hx), hfree⟩ (fun o' e' => by rw [show (AS.h ⟨n, tm, h, ms, h0⟩) b = h b from rfl, hb] at e'; cases e'; rfl)⟩
theorem ghost_in {b c : Nat} {cs ds ds' : List AV} (hb : h b = some (.row cs)) (hc : h c = some (.row ds)) (hne : c ≠ b) (hl : ds.length = ds'.length) (hf : ∀ (i : Nat) (x y : AV), ds[i]? = some x → ds'[i]? = some y → (AV.cell x = true → AV.cell y = true) ∧ Frz b cs x y) :
    Ghost ⟨n, tm, h, ms, h0⟩ ⟨n, tm, (h.upd b none).upd c (some (.row ds')), ms, h0⟩ := by
  intro g I a w hs
  obtain ⟨hbase, arr, e, hw, hsz, hcl, hvr, hfree⟩ := hs.wr.obj b _ hb
  have h1 : ∀ o v, I.cell b o = some v → (if o < cs.length then arr[o]? else none) = some v := fun o v k => by rw [hfree] at k; cases k
  have s1 := (hs.delObj b (fun o e => by rw [show (AS.h ⟨n, tm, h, ms, h0⟩) b = h b from rfl, hb] at e; cases e; rfl)).setBlk b (fun o => if o < cs.length then arr[o]? else none) h1 (fun o v k => by
    split at k
    · simpa [World.cell?, hw] using k
    · cases k) (by simp [AS.setH])
  have hc1 : (AS.setH ⟨n, tm, h, ms, h0⟩ (h.upd b none)).h c = some (.row ds) := by simp [AS.setH, Heap.upd, hne, hc]
  obtain ⟨kbase, arr2, e2, kw, ksz, kcl, kvr, kfree⟩ := s1.wr.obj c _ hc1
  have hget : ∀ (i : Nat) (y : AV), ds'[i]? = some y → ∃ x, ds[i]? = some x ∧ (AV.cell x = true → AV.cell y = true) ∧ Frz b cs x y := fun i y hy => by
    have hi : i < ds.length := by rw [hl]; exact (List.getElem?_eq_some_iff.1 hy).1
    exact ⟨_, List.getElem?_eq_getElem hi, hf i _ y (List.getElem?_eq_getElem hi) hy⟩
  have s2 := s1.setObj c (.row ds') kbase ⟨arr2, e2, kw, by omega, fun y hy => by
    obtain ⟨i, hi, rfl⟩ := List.mem_iff_getElem.1 hy
    obtain ⟨x, hx, h3, -⟩ := hget i _ (List.getElem?_eq_getElem hi)
    exact h3 (kcl x (List.mem_of_getElem? hx)), fun i y hy => by
    obtain ⟨x, hx, -, h3⟩ := hget i y hy
    refine h3.vr (u := fun j => arr.getD j default) (fun j a ha => ?_) hcl (fun j a ha => (hvr j a ha).mono (Imm.le_setBlk h1)) (kvr i x hx)
    have hlt : j < cs.length := (List.getElem?_eq_some_iff.1 ha).1
    simp [Imm.setBlk, hlt, Array.getElem?_eq_getElem (show j < arr.size by omega), Array.getD_eq_getD_getElem?], kfree⟩ (fun o' e' => by rw [hc1] at e'; cases e'; rfl)
  exact ⟨_, s2⟩
theorem ghost_inMp {b c j : Nat} {ks : List CK} {agg : Bool} {es : List (List Value × AV)} {ds : List AV} (hb : h b = some (.map ks agg es)) (hc : h c = some (.row ds)) (hj : ds[j]? = some (.mp b)) :
    Ghost ⟨n, tm, h, ms, h0⟩ ⟨n, tm, (h.upd b none).upd c (some (.row (ds.set j (.im ks agg es)))), ms, h0⟩ := by
  intro g I a w hs
  have hne : c ≠ b := fun e => by subst e; rw [hb] at hc; cases hc
  obtain ⟨hbase, ents, clock, hw, hsz, hvr, hfree⟩ := hs.wr.obj b _ hb
  have s0 := hs.delObj b (fun o e => by rw [show (AS.h ⟨n, tm, h, ms, h0⟩) b = h b from rfl, hb] at e; cases e; rfl)
  obtain ⟨s1, hle⟩ := s0.setMp b ents.toList hfree (clock := clock) (by simpa using hw) (by simp [AS.setH])
  have hc1 : (AS.setH ⟨n, tm, h, ms, h0⟩ (h.upd b none)).h c = some (.row ds) := by simp [AS.setH, Heap.upd, hne, hc]
  obtain ⟨kbase, arr2, e2, kw, ksz, kcl, kvr, kfree⟩ := s1.wr.obj c _ hc1
  have s2 := s1.setObj c (.row (ds.set j (.im ks agg es))) kbase ⟨arr2, e2, kw, by simpa using ksz, fun y hy => by
    rcases List.mem_or_eq_of_mem_set hy with hy | rfl
    · exact kcl y hy
    · rfl, fun i y hy => by
    rw [List.getElem?_set] at hy
    split at hy
    · rename_i hij
      subst hij
      split at hy
      · injection hy with hy
        subst hy
        have hm := kvr j _ hj
        generalize arr2.getD j default = u at hm
        cases hm with
        | mp =>
          refine .im ks agg es b ents.toList (by simp [Imm.setMp]) (by simpa using hsz) (fun i p e h1 h2 => ?_) (fun i p e h1 h2 => ?_)
          · have := hvr i p e h1 (by simpa using h2); exact ⟨this.1, this.2.1⟩
          · exact ((hvr i p e h1 (by simpa using h2)).2.2).mono hle
      · cases hy
    · exact kvr i y hy, kfree⟩ (fun o' e' => by rw [hc1] at e'; cases e'; rfl)
  exact ⟨_, s2⟩
theorem VR.gs {α : Type} {f : α → List AV} {S : Nat} {p : Gs α} {I : Imm} {v : Value} (hS : p.S = S ∨ p.l = []) (h : VR I (p.cell f) v) : VR I (.sl .any S (p.l.map f)) v := by
  rcases hS with e | e
  · rw [← e]; exact VR.any h
  · have h := VR.any (show VR I (.sl p.own p.S (p.l.map f)) v from h)
    rw [e] at h ⊢
    cases h with
    | slnil _ _ h => exact .slnil _ _ (.inr rfl)
    | sl _ _ _ ad cap u ho hl hcl hc hv => exact .sl _ _ [] ad cap u ho (by simp) (by simp) (by simp) (by simp)
end
end Go.AM
end
section
set_option linter.unusedVariables false
set_option linter.unusedSimpArgs false
namespace Go.AM.Tryd
open Go Go.AM Go.AM.D
theorem getD_set {ns : List Int} {i j : Nat} {v : Int} (hi : i < ns.length) : (ns.set i v).getD j 0 = if i = j then v else ns.getD j 0 := by
  simp only [List.getD_eq_getElem?_getD, List.getElem?_set]
  by_cases h : i = j
  · subst h; simp [hi]
  · simp [h]
def Lo (m : Nat) (ns : List Int) : Prop := ns.length = m ∧ ∀ j, j < m → 1 ≤ ns.getD j 0
def Hi (m : Nat) (ns : List Int) : Prop := ∀ j, j < m → ns.getD j 0 ≤ m
def Bel (C : List Int → Prop) (m : Nat) (ns : List Int) : Prop := ∀ ms, Lo m ms → C ms → ∀ j, j < m → ns.getD j 0 ≤ ms.getD j 0
structure IsL (C : List Int → Prop) (m : Nat) (ns : List Int) : Prop where
  lo : Lo m ns
  hi : Hi m ns
  cl : C ns
  bel : Bel C m ns
theorem IsL.one {C : List Int → Prop} {m : Nat} {a b : List Int} (ha : IsL C m a) (hb : IsL C m b) : a = b := by
  apply List.ext_getElem
  · rw [ha.lo.1, hb.lo.1]
  · intro i h1 h2
    have hi : i < m := by rw [← ha.lo.1]; exact h1
    have k1 := ha.bel b hb.lo hb.cl i hi
    have k2 := hb.bel a ha.lo ha.cl i hi
    simp only [List.getD_eq_getElem?_getD, List.getElem?_eq_getElem h1, List.getElem?_eq_getElem h2, Option.getD_some] at k1 k2
    omega
open Classical in
noncomputable def numV (C : List Int → Prop) (m : Nat) : Option (List Int) := if h : ∃ ns, IsL C m ns then some h.choose else none
theorem numV_some {C : List Int → Prop} {m : Nat} {ns : List Int} (h : IsL C m ns) : numV C m = some ns := by
  have hx : ∃ ns, IsL C m ns := ⟨ns, h⟩
  rw [numV, dif_pos hx]
  exact congrArg some (hx.choose_spec.one h)
theorem numV_spec {C : List Int → Prop} {m : Nat} {ns : List Int} (h : numV C m = some ns) : IsL C m ns := by
  rw [numV] at h
  split at h
  · rename_i hx; injection h with h; rw [← h]; exact hx.choose_spec
  · cases h
theorem numV_none {C : List Int → Prop} {m : Nat} {ns : List Int} {j : Nat} (hb : Bel C m ns) (hj : j < m) (h : (m : Int) < ns.getD j 0) : numV C m = none := by
  rw [numV]
  split
  · rename_i hx
    obtain ⟨ms, hm⟩ := hx
    have := hb ms hm.lo hm.cl j hj
    have := hm.hi j hj
    omega
  · rfl
theorem numV_congr {C D : List Int → Prop} {m : Nat} (h : ∀ ns, Lo m ns → (C ns ↔ D ns)) : numV C m = numV D m := by
  have hI : ∀ ns, IsL C m ns ↔ IsL D m ns := fun ns => ⟨fun k => ⟨k.lo, k.hi, (h ns k.lo).1 k.cl, fun ms lm cm => k.bel ms lm ((h ms lm).2 cm)⟩, fun k => ⟨k.lo, k.hi, (h ns k.lo).2 k.cl, fun ms lm cm => k.bel ms lm ((h ms lm).1 cm)⟩⟩
  cases hd : numV D m with
  | some ns => exact numV_some ((hI ns).2 (numV_spec hd))
  | none =>
    cases hc : numV C m with
    | none => rfl
    | some ns => rw [numV_some ((hI ns).1 (numV_spec hc))] at hd; cases hd
structure Rd (C : List Int → Prop) (m : Nat) (ns0 ns : List Int) (g : Bool) : Prop where
  lo : Lo m ns
  bel : Bel C m ns
  ge : ∀ j, j < m → ns0.getD j 0 ≤ ns.getD j 0
  gF : g = false → ns = ns0
  gT : g = true → ∃ j, j < m ∧ ns0.getD j 0 < ns.getD j 0
theorem Rd.start {C : List Int → Prop} {m : Nat} {ns : List Int} (h : Lo m ns) (hb : Bel C m ns) : Rd C m ns ns false := ⟨h, hb, fun _ _ => Int.le_refl _, fun _ => rfl, fun h => by cases h⟩
theorem Rd.step {C : List Int → Prop} {m : Nat} {ns0 ns : List Int} {g : Bool} (h : Rd C m ns0 ns g) {i : Nat} {v : Int} (hi : i < m) (hv : ns.getD i 0 < v) (hC : ∀ ms, Lo m ms → C ms → v ≤ ms.getD i 0) : Rd C m ns0 (ns.set i v) true := by
  have hl : i < ns.length := by rw [h.lo.1]; exact hi
  have hlo := h.lo.2 i hi
  refine ⟨⟨by rw [List.length_set]; exact h.lo.1, fun j hj => ?_⟩, fun ms hm hc j hj => ?_, fun j hj => ?_, (fun e => by cases e), fun _ => ⟨i, hi, ?_⟩⟩
  · rw [getD_set hl]; split
    · omega
    · exact h.lo.2 j hj
  · rw [getD_set hl]; split
    · rename_i e; subst e; exact hC ms hm hc
    · exact h.bel ms hm hc j hj
  · rw [getD_set hl]; split
    · rename_i e; subst e; have := h.ge i hj; omega
    · exact h.ge j hj
  · rw [getD_set hl, if_pos rfl]; have := h.ge i hi; omega
def room (m : Nat) (ns : List Int) : Nat → Nat
  | 0 => 0
  | j + 1 => room m ns j + ((m : Int) - ns.getD j 0).toNat
theorem room_le {m : Nat} {a b : List Int} : ∀ k, (∀ j, j < k → a.getD j 0 ≤ b.getD j 0) → room m b k ≤ room m a k
  | 0, _ => Nat.le_refl _
  | k + 1, h => by
    have h1 := room_le (m := m) k (fun j hj => h j (by omega))
    have h2 := h k (by omega)
    simp only [room]; omega
theorem room_lt {m : Nat} {a b : List Int} : ∀ k, (∀ j, j < k → a.getD j 0 ≤ b.getD j 0 ∧ b.getD j 0 ≤ m) → (∃ j, j < k ∧ a.getD j 0 < b.getD j 0) → room m b k < room m a k
  | 0, _, ⟨j, hj, _⟩ => by omega
  | k + 1, h, ⟨j, hj, hlt⟩ => by
    have h2 := h k (by omega)
    simp only [room]
    by_cases hjk : j = k
    · subst hjk
      have h1 := room_le (m := m) j (fun q hq => (h q (by omega)).1)
      omega
    · have h1 := room_lt (m := m) k (fun q hq => h q (by omega)) ⟨j, by omega, hlt⟩
      omega
theorem rep_set {m i : Nat} (h : i < m) : (List.replicate i (1 : Int) ++ List.replicate (m - i) 0).set i 1 = List.replicate (i + 1) 1 ++ List.replicate (m - (i + 1)) 0 := by
  rw [List.set_append_right _ _ (by simp), List.length_replicate, Nat.sub_self, show m - i = (m - (i + 1)) + 1 by omega, List.replicate_succ, List.set_cons_zero, List.replicate_succ', List.append_assoc]
  rfl
theorem rep_done {m : Nat} {i : Nat} (h : i = m) : List.replicate i (1 : Int) ++ List.replicate (m - i) 0 = List.replicate m 1 := by
  subst h; simp
theorem rep_get {m j : Nat} (h : j < m) : (List.replicate m (1 : Int)).getD j 0 = 1 := by
  simp [List.getD_eq_getElem?_getD, List.getElem?_replicate, h]
theorem rep_lo (m : Nat) : Lo m (List.replicate m 1) := ⟨List.length_replicate, fun j hj => by rw [rep_get hj]; omega⟩
theorem rep_bel (C : List Int → Prop) (m : Nat) : Bel C m (List.replicate m 1) := fun ms hm _ j hj => by rw [rep_get hj]; exact hm.2 j hj
theorem rep_hi (m : Nat) : Hi m (List.replicate m 1) := fun j hj => by rw [rep_get hj]; omega
/-! The reference's rule -/
def nilT : Term := ⟨0, ⟨#[]⟩, ⟨#[]⟩⟩
def tAt (p : List Term) (i : Nat) : Term := p.getD i nilT
theorem tAt_get {p : List Term} {i : Nat} (h : i < p.length) : p[i]? = some (tAt p i) := by
  rw [tAt, List.getD_eq_getElem?_getD, List.getElem?_eq_getElem h]; rfl
def cpair (l : List Rule) (p : List Term) (ns : List Int) (i k : Nat) : Prop := (hangF (tAt p i) (tAt p k) true l = true → ns.getD k 0 + 1 ≤ ns.getD i 0) ∧ (hangF (tAt p i) (tAt p k) false l = true → ns.getD k 0 ≤ ns.getD i 0)
def clR (l : List Rule) (p : List Term) (ns : List Int) : Prop := ∀ i k, i < p.length → k < p.length → cpair l p ns i k
def ofV : Option (List Int) → List Int × Int
  | some ns => (ns, 0)
  | none => ([], 6)
noncomputable def refN (l : List Rule) : List Int × Int :=
  if progR l ≠ 0 then ([], progR l) else if negF l = false then (List.replicate (predF l []).length 1, 0) else ofV (numV (clR l (predF l [])) (predF l []).length)
theorem predF_len : ∀ (l : List Rule) (acc : List Term), (predF l acc).length ≤ acc.length + l.length
  | [], acc => by simp [predF]
  | r :: l, acc => by
    rw [predF]
    split
    · have := predF_len l (acc ++ [r.head.b.term]); simp at this ⊢; omega
    · have := predF_len l acc; simp at this ⊢; omega
end Go.AM.Tryd
end
section
set_option maxRecDepth 100000
set_option maxHeartbeats 4000000
set_option linter.unusedVariables false
set_option linter.unusedSimpArgs false
namespace Go.AM.Tryd
open Go Go.AM Go.AM.D
end Go.AM.Tryd
end
section
set_option linter.unusedVariables false
set_option linter.unusedSimpArgs false
namespace Go.AM.D
open Go Go.AM Go.AM.Tryd
structure Edg where
  to : Int
  strict : Bool
  deriving DecidableEq
def eEdg (e : Edg) : List AV := [.lit (.int .i64 e.to), .lit (.bool e.strict)]
structure Graph where
  names : List Term
  out : List (List Edg)
def tkey (t : Term) : List Value := [.int .i64 t.kind, .string t.text, .string t.extra]
def atL : List Term → Int → List (List Value × AV)
  | [], _ => []
  | t :: l, i => (tkey t, .lit (.int .i64 i)) :: atL l (i + 1)
def Graph.at_ (g : Graph) : List (List Value × AV) := atL g.names 0
def eGraph (g : Graph) : List AV := [.sl .any 3 (g.names.map eTerm), .im ks25 true g.at_, .sl .any 1 (g.out.map fun l => [.sl .any 2 (l.map eEdg)])]
theorem tkey_eq (a b : Term) : vEqs (tkey a) (tkey b) = decide (a = b) := eTerm_eq a b
theorem atL_get (t : Term) : ∀ (l : List Term) (i : Int), 0 ≤ i → aget (tkey t) (atL l i) = if atF t l i ≥ 0 then some (.lit (.int .i64 (atF t l i))) else none
  | [], i, _ => by simp [atL, aget, atF]
  | x :: l, i, h => by
    rw [atL, aget, tkey_eq, atF]
    by_cases e : t = x
    · subst e; simp [h]
    · have e' : ¬ x = t := fun h => e h.symm
      simp only [e, e', decide_false, if_false]
      exact atL_get t l (i + 1) (by omega)
theorem atF_ge (t : Term) : ∀ (l : List Term) (i : Int), atF t l i = -1 ∨ (i ≤ atF t l i ∧ atF t l i < i + l.length)
  | [], i => by simp [atF]
  | x :: l, i => by
    rw [atF]
    split
    · right; simp; omega
    · rcases atF_ge t l (i + 1) with h | h
      · exact .inl h
      · right; simp; omega
theorem atF_at {t : Term} : ∀ {l : List Term} {i : Int}, atF t l i ≠ -1 → 0 ≤ i → l[(atF t l i - i).toNat]? = some t
  | [], i => by simp [atF]
  | x :: l, i => by
    rw [atF]
    split
    · rename_i e; intro _ _; subst e; simp
    · intro h h0
      have h1 := atF_at (l := l) h (by omega)
      have h2 := (atF_ge t l (i + 1)).resolve_left h
      rw [show (atF t l (i + 1) - i).toNat = (atF t l (i + 1) - (i + 1)).toNat + 1 by omega, List.getElem?_cons_succ]; exact h1
theorem atL_snoc (t : Term) : ∀ (l : List Term) (i : Int), 0 ≤ i → atF t l i = -1 → aput (tkey t) (.lit (.int .i64 (i + l.length))) (atL l i) = atL (l ++ [t]) i
  | [], i, _, _ => by simp [atL, aput]
  | x :: l, i, h, hn => by
    rw [atF] at hn
    split at hn
    · omega
    · rename_i e
      have e' : ¬ t = x := fun h => e h.symm
      have ih := atL_snoc t l (i + 1) (by omega) hn
      simp only [List.cons_append, atL, aput, tkey_eq, e', decide_false]
      rw [← ih]
      simp only [List.length_cons, Int.natCast_add, Int.natCast_one]
      congr 4
      omega
end Go.AM.D
namespace Go.AM.Tryd
open Go Go.AM Go.AM.D
def okG (g : Graph) : Prop := g.names.length ≤ 1048576 ∧ g.out.length = g.names.length ∧ ∀ es ∈ g.out, es.length ≤ 1099511627776 ∧ ∀ e ∈ es, 0 ≤ e.to ∧ e.to < g.names.length
def eok (ns : List Int) (i : Nat) (e : Edg) : Prop := ns.getD e.to.toNat 0 + (if e.strict = true then 1 else 0) ≤ ns.getD i 0
def clP (out : List (List Edg)) (ns : List Int) : Prop := ∀ i, ∀ es, out[i]? = some es → ∀ e ∈ es, eok ns i e
def ofB : Option (List Int) → List Int × Bool
  | some ns => (ns, true)
  | none => ([], false)
noncomputable def numG (g : Graph) : List Int × Bool := ofB (numV (clP g.out) g.names.length)
end Go.AM.Tryd
end
section
set_option maxRecDepth 100000
set_option maxHeartbeats 4000000
set_option linter.unusedVariables false
set_option linter.unusedSimpArgs false
namespace Go.AM.Tryd
open Go Go.AM Go.AM.D
theorem numbers_ (g : Graph) (l : List Rule) (hok : okG g) : PFn PR (.fn (.func 43) [] []) [.ip (eGraph g), .sl .any 13 (l.map eRule)] (.tup [.sl .any 1 (((numG g).1).map eI64), .lit (.bool ((numG g).2))]) := by
  have hgn := hok.1
  have hgo := hok.2.1
  refine PFn_of Go.Proofs.Tryz.func43 rfl (by rfl) Go.Proofs.Tryz.ntmps43 rfl (by simp) fun h => ?_
  refine AW_x [] [] ?_
  refine ⟨1, F62_0, T37, L37, _, lm, ?_⟩
  refine AL_mkn rfl rfl rfl rfl un32 ty3 z3 by3 rfl rfl (by omega) (by omega) fun b hb => ?_
  refine AL_x [] [] 6 ?_
  refine ⟨L32, ?_⟩
  refine AW_it [] [] [(0, _), (4, _), (5, _), (6, _), (21, _)] (fun (z : Nat) => [(22, .lit (.int .i64 ((z : Nat) : Int)))]) (fun (z : Nat) => (h.upd b (some (.row (ints (List.replicate z (1 : Int) ++ List.replicate (g.names.length - z) 0)))))) (fun (z : Nat) => z ≤ g.names.length) (fun (z : Nat) => g.names.length - z) (0) ⟨rfl, rfl, rfl, rfl, rfl, trivial⟩ ⟨rfl, trivial⟩ (by simp) (by omega) ?_
  intro z hIz
  have hrl : (List.replicate z (1 : Int) ++ List.replicate (g.names.length - z) 0).length = g.names.length := by simp only [List.length_append, List.length_replicate]; omega
  refine brD (fun hc3 => ?_) (fun hc3 => ?_)
  · skip
    refine ⟨L32, _, ixj (by first | omega | (simp only [List.length_set]; omega)), ?_⟩
    refine AL_stn (ns := (List.replicate z (1 : Int) ++ List.replicate (g.names.length - z) 0)) (j := z) (v := 1) rfl rfl rfl ty3 rfl rfl (by first | omega | (simp only [List.length_set]; omega)) ?_
    refine AL_nil ?_
    refine ⟨_, f1 (by first | omega | (simp_all <;> omega)), ?_⟩
    exact ⟨z + 1, by omega, by omega, ⟨rfl, ⟨rfl, rfl, rfl, rfl, rfl, rfl, trivial⟩, (by rw [rep_set (by omega)]), rfl, rfl⟩⟩
  · skip
    refine AW_it [] [] [(0, _), (4, _), (5, _), (6, _)] (fun (z_ : List Int × Bool) => match z_ with | (ns, ch) => [(8, .lit (.bool ch))]) (fun (z_ : List Int × Bool) => match z_ with | (ns, ch) => (h.upd b (some (.row (ints ns))))) (fun (z_ : List Int × Bool) => match z_ with | (ns, ch) => Lo g.names.length ns ∧ Hi g.names.length ns ∧ Bel (clP g.out) g.names.length ns ∧ (ch = false → clP g.out ns)) (fun (z_ : List Int × Bool) => match z_ with | (ns, ch) => 2 * room g.names.length ns g.names.length + (if ch = true then 1 else 0)) ((List.replicate g.names.length 1, true)) ⟨rfl, rfl, rfl, rfl, trivial⟩ ⟨rfl, trivial⟩ (by rw [rep_done (by omega)]) (⟨rep_lo _, rep_hi _, rep_bel _ _, nofun⟩) ?_
    rintro ⟨ns, ch⟩ ⟨hLo, hHi, hBel, hCh⟩
    have hnl := hLo.1
    refine ⟨fun hc8 => ?_, fun hc8 => ?_⟩
    · skip
      refine ⟨F62_2, T60, L60, _, lm, ?_⟩
      refine AW_it [] [] [(0, _), (4, _), (5, _), (6, _), (33, _), (34, _)] (fun (z_ : Nat × List Int × Bool) => match z_ with | (i, n1, g1) => [(35, .lit (.int .i64 ((i : Nat) : Int))), (8, .lit (.bool g1))]) (fun (z_ : Nat × List Int × Bool) => match z_ with | (i, n1, g1) => (h.upd b (some (.row (ints n1))))) (fun (z_ : Nat × List Int × Bool) => match z_ with | (i, n1, g1) => i ≤ g.out.length ∧ Rd (clP g.out) g.names.length ns n1 g1 ∧ Hi g.names.length n1 ∧ (g1 = false → ∀ a es, a < i → g.out[a]? = some es → ∀ e ∈ es, eok ns a e)) (fun (z_ : Nat × List Int × Bool) => match z_ with | (i, n1, g1) => g.out.length - i) ((0, ns, false)) ⟨rfl, rfl, rfl, rfl, rfl, rfl, trivial⟩ ⟨rfl, rfl, trivial⟩ rfl (⟨by omega, .start hLo hBel, hHi, fun _ a es ha => by omega⟩) ?_
      rintro ⟨i, n1, g1⟩ ⟨hIi, hR1, hH1, hD1⟩
      have hn1 := hR1.lo.1
      refine brD (fun hc11 => ?_) (fun hc11 => ?_)
      · skip
        obtain ⟨es, hres, hdes, hmes⟩ := drop_at (l := g.out) (i := i) (by omega)
        have hi : i < g.names.length := by omega
        have hel := (hok.2.2 es hmes).1
        have helt := (hok.2.2 es hmes).2
        refine ⟨L60, _, ⟨rfl, (by first | decide | omega), (mget hres)⟩, T81, L81, _, lm, ?_⟩
        refine AW_it [(17, 0), (19, 0)] [] [(35, _), (0, _), (4, _), (5, _), (6, _), (33, _), (34, _), (9, _), (40, _), (41, _)] (fun (z_ : Nat × List Int × Bool) => match z_ with | (k, n2, g2) => [(42, .lit (.int .i64 ((k : Nat) : Int))), (8, .lit (.bool g2))]) (fun (z_ : Nat × List Int × Bool) => match z_ with | (k, n2, g2) => (h.upd b (some (.row (ints n2))))) (fun (z_ : Nat × List Int × Bool) => match z_ with | (k, n2, g2) => k ≤ es.length ∧ Rd (clP g.out) g.names.length ns n2 g2 ∧ Hi g.names.length n2 ∧ (g2 = false → ∀ a es, a < i → g.out[a]? = some es → ∀ e ∈ es, eok ns a e) ∧ (g2 = false → ∀ e ∈ es.take k, eok ns i e)) (fun (z_ : Nat × List Int × Bool) => match z_ with | (k, n2, g2) => es.length - k) ((0, n1, g1)) ⟨rfl, rfl, rfl, rfl, rfl, rfl, rfl, rfl, rfl, rfl, trivial⟩ ⟨rfl, rfl, trivial⟩ rfl (⟨by omega, hR1, hH1, hD1, fun _ e he => by simp at he⟩) ?_
        rintro ⟨k, n2, g2⟩ ⟨hIk, hR2, hH2, hD2, hD3⟩
        have hn2 := hR2.lo.1
        refine brD (fun hc14 => ?_) (fun hc14 => ?_)
        · skip
          obtain ⟨x, hrx, hdx, hmx⟩ := drop_at (l := es) (i := k) (by omega)
          have hto := helt x hmx
          have hhk := hH2 x.to.toNat (by omega)
          have hhl := hR2.lo.2 x.to.toNat (by omega)
          refine ⟨L81, _, ⟨rfl, (by first | decide | omega), (mget hrx)⟩, T83, ?_⟩
          refine AL_als rfl rfl rfl rfl rfl rfl al83 rfl rfl rfl rfl rfl ?_
          refine AL_nil ?_
          refine ⟨F83_0, T3, L32, _, ixn (by first | decide | omega) (by first | omega | (simp only [List.length_set]; omega)), T3, _, _, ⟨(Heap.upd_same _ _ _), ldn (by first | omega | (simp only [List.length_set]; omega))⟩, ?_⟩
          refine AW_join (α := Int) (fun (least : Int) => [(13, .lit (.int .i64 least)), (42, .lit (.int .i64 ((k : Nat) : Int))), (8, .lit (.bool g2)), (35, .lit (.int .i64 ((i : Nat) : Int))), (0, .ip (eGraph g)), (4, .sl .nil 1 []), (5, .lit (.bool false)), (6, .ms b 0 1 g.names.length g.names.length), (33, .sl .any 1 (g.out.map (fun l => [.sl .any 2 (l.map eEdg)]))), (34, .lit (.int .i64 (g.out.length : Int))), (9, .lit (.int .i64 ((i : Nat) : Int))), (40, .sl .any 2 (es.map eEdg)), (41, .lit (.int .i64 (es.length : Int)))]) (fun (least : Int) => (h.upd b (some (.row (ints n2))))) (fun (least : Int) => least = n2.getD x.to.toNat 0 + (if x.strict = true then 1 else 0)) ?_ ?_
          · skip
            refine AW_x [] [] ?_
            refine ⟨F83_1, T4, fun hc17 => ?_, fun hc17 => ?_⟩
            · skip
              refine ⟨((n2.getD (x.to).toNat 0) + 1), fz rfl trivial (i64w (by omega) (by omega)), ?_⟩
              exact ⟨_, by rw [if_pos hc17], ⟨rfl, ⟨rfl, rfl, rfl, rfl, rfl, rfl, rfl, rfl, rfl, rfl, rfl, rfl, rfl, trivial⟩, rfl, rfl, rfl⟩⟩
            · skip
              exact ⟨_, by rw [if_neg (by rw [hc17]; simp), Int.add_zero], ⟨rfl, ⟨rfl, rfl, rfl, rfl, rfl, rfl, rfl, rfl, rfl, rfl, rfl, rfl, rfl, trivial⟩, rfl, rfl, rfl⟩⟩
          · rintro least hlst
            refine AW_join (α := List Int × Bool) (fun (z_ : List Int × Bool) => match z_ with | (n3, g3) => [(8, .lit (.bool g3)), (42, .lit (.int .i64 ((k : Nat) : Int))), (35, .lit (.int .i64 ((i : Nat) : Int))), (0, .ip (eGraph g)), (4, .sl .nil 1 []), (5, .lit (.bool false)), (6, .ms b 0 1 g.names.length g.names.length), (33, .sl .any 1 (g.out.map (fun l => [.sl .any 2 (l.map eEdg)]))), (34, .lit (.int .i64 (g.out.length : Int))), (9, .lit (.int .i64 ((i : Nat) : Int))), (40, .sl .any 2 (es.map eEdg)), (41, .lit (.int .i64 (es.length : Int)))]) (fun (z_ : List Int × Bool) => match z_ with | (n3, g3) => (h.upd b (some (.row (ints n3))))) (fun (z_ : List Int × Bool) => match z_ with | (n3, g3) => Rd (clP g.out) g.names.length ns n3 g3 ∧ (∀ j, j < g.names.length → j ≠ i → n3.getD j 0 ≤ g.names.length) ∧ (g3 = false → ∀ a es, a < i → g.out[a]? = some es → ∀ e ∈ es, eok ns a e) ∧ (g3 = false → ∀ e ∈ es.take k, eok ns i e) ∧ (g3 = false → eok ns i x)) ?_ ?_
            · skip
              refine AW_x [] [] ?_
              refine ⟨L32, _, ixj (by first | omega | (simp only [List.length_set]; omega)), T3, _, _, ⟨(Heap.upd_same _ _ _), ldn (by first | omega | (simp only [List.length_set]; omega))⟩, brD (fun hc19 => ?_) (fun hc19 => ?_)⟩
              · skip
                refine ⟨L32, _, ixj (by first | omega | (simp only [List.length_set]; omega)), ?_⟩
                refine AL_stn (ns := n2) (j := i) (v := least) rfl rfl rfl ty3 rfl rfl (by first | omega | (simp only [List.length_set]; omega)) ?_
                refine AL_x [] [] 5 ?_
                exact ⟨(n2.set i least, true), ⟨hR2.step hi (by omega) (fun ms hm hc => by
                    have h1 := hR2.bel ms hm hc x.to.toNat (by omega)
                    have h2 : ms.getD x.to.toNat 0 + (if x.strict = true then 1 else 0) ≤ ms.getD i 0 := hc i es hres x hmx
                    omega), fun j hj hji => by rw [getD_set (by omega), if_neg (by omega)]; exact hH2 j hj, nofun, nofun, nofun⟩, ⟨rfl, ⟨rfl, rfl, rfl, rfl, rfl, rfl, rfl, rfl, rfl, rfl, rfl, rfl, trivial⟩, rfl, rfl, rfl⟩⟩
              · skip
                exact ⟨(n2, g2), ⟨hR2, fun j hj _ => hH2 j hj, hD2, hD3, fun e => by
                    have hg := hR2.gF e
                    rw [← hg, eok]; omega⟩, ⟨rfl, ⟨rfl, rfl, rfl, rfl, rfl, rfl, rfl, rfl, rfl, rfl, rfl, rfl, trivial⟩, rfl, rfl, rfl⟩⟩
            · rintro ⟨n3, g3⟩ ⟨hR3, hB3, hE3, hF3, hS3⟩
              have hn3 := hR3.lo.1
              refine AW_x [] [] ?_
              refine ⟨L32, _, ixj (by first | omega | (simp only [List.length_set]; omega)), T3, _, _, ⟨(Heap.upd_same _ _ _), ldn (by first | omega | (simp only [List.length_set]; omega))⟩, L32, brD (fun hc21 => ?_) (fun hc21 => ?_)⟩
              · skip
                have hw : numG g = ([], false) := by rw [numG, numV_none hR3.bel hi hc21]; rfl
                refine ⟨1, ?_⟩
                refine AW_any (k := 4) rfl ?_
                refine AW_ret ?_
                exact ret_le2 (.inl rfl) rfl (by rw [hw]; rfl) (Heap.le_upd (.refl _) hb _)
              · skip
                refine ⟨_, f1 (by first | omega | (simp_all <;> omega)), ?_⟩
                exact ⟨(k + 1, n3, g3), ⟨by omega, hR3, fun j hj => by
                    by_cases hji : j = i
                    · subst hji; omega
                    · exact hB3 j hj hji, hE3, fun e x hx => by
                    rw [List.take_add_one, hrx, Option.toList_some, List.mem_append, List.mem_singleton] at hx
                    rcases hx with hx | rfl
                    · exact hF3 e x hx
                    · exact hS3 e⟩, by simp only []; omega, ⟨rfl, ⟨rfl, rfl, rfl, rfl, rfl, rfl, rfl, rfl, rfl, rfl, rfl, rfl, trivial⟩, rfl, rfl, rfl⟩⟩
        · skip
          refine ⟨_, f1 (by first | omega | (simp_all <;> omega)), ?_⟩
          exact ⟨(i + 1, n2, g2), ⟨by omega, hR2, hH2, fun e a as_ ha hb => by
              by_cases hai : a = i
              · subst hai; rw [hres] at hb; injection hb with hb; subst hb; exact fun x hx => hD3 e x (by rwa [show k = es.length by omega, List.take_of_length_le (Nat.le_refl _)])
              · exact hD2 e a as_ (by omega) hb⟩, by simp only []; omega, ⟨rfl, ⟨rfl, rfl, rfl, rfl, rfl, rfl, rfl, rfl, trivial⟩, rfl, rfl, rfl⟩⟩
      · skip
        exact ⟨(n1, g1), ⟨hR1.lo, hH1, hR1.bel, fun e => by rw [hR1.gF e]; exact fun a es ha => hD1 e a es (by have := (List.getElem?_eq_some_iff.1 ha).1; omega) ha⟩, by
          subst hc8
          simp only [if_pos rfl]
          cases g1 with
          | true =>
            have := room_lt (m := g.names.length) (a := ns) (b := n1) g.names.length (fun j hj => ⟨hR1.ge j hj, hH1 j hj⟩) (hR1.gT rfl)
            simp only [if_pos rfl]; omega
          | false =>
            rw [hR1.gF rfl]; simp, ⟨rfl, ⟨rfl, rfl, rfl, rfl, rfl, trivial⟩, rfl, rfl, rfl⟩⟩
    · skip
      have hw : numG g = (ns, true) := by rw [numG, numV_some ⟨hLo, hHi, hCh hc8, hBel⟩]; rfl
      refine AW_frzn (k := 4) rfl hb (by omega) (by omega) ?_
      exact AW_ret (ret_le2 (.inl rfl) rfl (by rw [hw]) (.refl _))
end Go.AM.Tryd
end
section
set_option linter.unusedVariables false
set_option linter.unusedSimpArgs false
namespace Go.AM
open Go.RowKit Go.AM.D
section
variable {P : Program} {ρ : Option Nat} {Q : Exit → AS → Prop} {o : Oper} {ops : Array Oper} {l : List Oper} {n d : Nat} {tm : List (Nat × AV)} {h h0 : Heap} {ms : List Nat} {σ : AS}
theorem Forest.le {α : Type} {f : α → List AV} {S : Nat} {hp hq h0 : Heap} {bo : Nat} {fo : List (Gs α)} (h : Forest f S hp h0 bo fo) (h1 : hq bo = hp bo) (h2 : ∀ b m, hp b = some (.tok m S) → hq b = some (.tok m S)) : Forest f S hq h0 bo fo :=
  ⟨h1.trans h.row, h.toks.le h2, h.sz⟩
theorem Forest.app {α : Type} {f : α → List AV} {S i : Nat} {hp hq h0 : Heap} {bo : Nat} {fo : List (Gs α)} {own2 : Own} {acc : List α} (h : Forest f S hp h0 bo fo) (hi : i < fo.length) (hs : Same hp hq) (hT : Toks S hq h0 ((fo.map Gs.ow).set i (own2, acc.length))) :
    Forest f S (hq.upd bo (some (.row (setCells (fo.map (Gs.cell f)) i [.sl own2 S (acc.map f)])))) h0 bo (fo.set i ⟨own2, S, acc⟩) := by
  have hrow := hs.row h.row
  have e : (fo.map Gs.ow).set i (own2, acc.length) = (fo.set i ⟨own2, S, acc⟩).map Gs.ow := by rw [List.map_set]; rfl
  rw [e] at hT
  refine ⟨?_, hT.upd (fun m S e => by rw [hrow] at e; cases e), fun p hp => ?_⟩
  · rw [Heap.upd_same]
    exact congrArg (fun c => some (AObj.row c)) (gs_set (p := ⟨own2, S, acc⟩) hi)
  · rcases List.mem_or_eq_of_mem_set hp with hp | rfl
    · exact h.sz p hp
    · exact .inl rfl
end
theorem Same.upd {hp hq : Heap} (h : Same hp hq) {b : Nat} {x : Option AObj} (hb : hp b = none) : Same hp (hq.upd b x) := fun q o e hn => by
  rw [Heap.upd_other _ (fun e2 => by subst e2; rw [hb] at e; cases e)]; exact h q o e hn
end Go.AM
namespace Go.AM.Tryd
open Go Go.AM Go.AM.D
def lookI (t : Term) (names : List Term) : Int := if atF t names 0 ≥ 0 then atF t names 0 else 0
def lookB (t : Term) (names : List Term) : Bool := decide (atF t names 0 ≥ 0)
theorem look_tup {t : Term} {names : List Term} : alook true (aget (tkey t) (atL names 0)) zv3 = .tup [.lit (.int .i64 (lookI t names)), .lit (.bool (lookB t names))] := by
  rw [atL_get t names 0 (by omega), lookI, lookB]
  by_cases h : atF t names 0 ≥ 0 <;> simp [h, alook]
theorem look_one {t : Term} {names : List Term} : alook false (aget (tkey t) (atL names 0)) zv3 = .lit (.int .i64 (lookI t names)) := by
  rw [atL_get t names 0 (by omega), lookI]
  by_cases h : atF t names 0 ≥ 0 <;> simp [h, alook]
theorem lookI_lt {t : Term} {names : List Term} (h : atF t names 0 ≠ -1) : 0 ≤ lookI t names ∧ lookI t names < names.length ∧ lookI t names = atF t names 0 := by
  have := (atF_ge t names 0).resolve_left h
  rw [lookI, if_pos (by omega)]; omega
def bods : List Rule → Nat
  | [] => 0
  | r :: l => r.body.length + bods l
def edgeL (names : List Term) (x : Lt) : List Edg :=
  if (decide (x.kind ≠ 1) && decide (x.kind ≠ 2)) = true then [] else if x.pat.b.var ≠ ⟨#[]⟩ then (List.range names.length).map (fun (k : Nat) => ⟨k, false⟩) else if lookB x.pat.b.term names = true then [⟨lookI x.pat.b.term names, decide (x.kind = 2)⟩] else []
def edgesL (names : List Term) : List Lt → List Edg
  | [] => []
  | x :: b => edgeL names x ++ edgesL names b
def addE (o : List (List Edg)) (i : Nat) (es : List Edg) : List (List Edg) := o.set i (o.getD i [] ++ es)
def outF (names : List Term) : List Rule → List (List Edg) → List (List Edg)
  | [], o => o
  | r :: l, o => if r.head.b.var ≠ ⟨#[]⟩ then outF names l o else outF names l (addE o (lookI r.head.b.term names).toNat (edgesL names r.body))
def seeG (l : List Rule) : Graph := ⟨predF l [], outF (predF l []) l (List.replicate (predF l []).length [])⟩
theorem addE_nil {o : List (List Edg)} {i : Nat} (h : i < o.length) : addE o i [] = o := by
  rw [addE, List.append_nil, List.getD_eq_getElem?_getD, List.getElem?_eq_getElem h]
  exact List.set_getElem_self h
theorem addE_len (o : List (List Edg)) (i : Nat) (es : List Edg) : (addE o i es).length = o.length := by rw [addE, List.length_set]
theorem addE_cons {o : List (List Edg)} {i : Nat} {e : Edg} {es : List Edg} (h : i < o.length) : addE o i (e :: es) = addE (o.set i (o.getD i [] ++ [e])) i es := by
  rw [addE, addE, List.set_set]
  have : (o.set i (o.getD i [] ++ [e])).getD i [] = o.getD i [] ++ [e] := by simp [List.getD_eq_getElem?_getD, h]
  rw [this, List.append_assoc]; rfl
theorem atF_app {t : Term} : ∀ {l m : List Term} {i : Int}, 0 ≤ i → atF t l i ≠ -1 → atF t (l ++ m) i ≠ -1
  | [], m, i, _, h => by simp [atF] at h
  | x :: l, m, i, h0, h => by
    rw [atF] at h; rw [List.cons_append, atF]
    split
    · omega
    · rename_i e; rw [if_neg e] at h; exact atF_app (by omega) h
theorem atF_last {t : Term} : ∀ {l : List Term} {i : Int}, 0 ≤ i → atF t (l ++ [t]) i ≠ -1
  | [], i, h => by simp [atF]; omega
  | x :: l, i, h => by
    rw [List.cons_append, atF]; split
    · omega
    · exact atF_last (by omega)
theorem predF_keep {t : Term} : ∀ (l : List Rule) {acc : List Term}, atF t acc 0 ≠ -1 → atF t (predF l acc) 0 ≠ -1
  | [], acc, h => h
  | r :: l, acc, h => by
    rw [predF]; split
    · exact predF_keep l (atF_app (by omega) h)
    · exact predF_keep l h
theorem predF_has {r : Rule} : ∀ {l : List Rule} {acc : List Term}, r ∈ l → r.head.b.var = ⟨#[]⟩ → atF r.head.b.term (predF l acc) 0 ≠ -1
  | x :: l, acc, hm, hv => by
    rw [predF]
    rcases List.mem_cons.1 hm with rfl | hm
    · split
      · exact predF_keep l (atF_last (by omega))
      · rename_i h
        refine predF_keep l ?_
        have hge := atF_ge r.head.b.term acc 0
        simp only [hv, decide_true, Bool.true_and, decide_eq_true_eq] at h
        omega
    · split <;> exact predF_has hm hv
end Go.AM.Tryd
end
section
set_option linter.unusedVariables false
set_option linter.unusedSimpArgs false
namespace Go.AM
open Go.RowKit Go.AM.D
section
variable {P : Program} {ρ : Option Nat} {Q : Exit → AS → Prop} {o : Oper} {ops : Array Oper} {l : List Oper} {n d : Nat} {tm : List (Nat × AV)} {h h0 : Heap} {ms : List Nat} {σ : AS}
theorem AW_graph {α β : Type} {f : α → List AV} {f1 : β → List AV} {S S1 bg bm bo m k : Nat} {q : Gs β} {fo : List (Gs α)} {ks : List CK} {agg : Bool} {es : List (List Value × AV)} {c : Code} (hk : look tm k = some (.ptr bg 0))
    (hrow : h bg = some (.row [q.cell f1, .mp bm, .ms bo 0 1 m m])) (hmap : h bm = some (.map ks agg es)) (hfo : h bo = some (.row (fo.map (Gs.cell f)))) (hq : q.S = S1 ∨ q.l = []) (hfs : ∀ p ∈ fo, p.S = S ∨ p.l = []) (hm : fo.length = m) (hne : bg ≠ bo)
    (kk : AW P ρ c Q ⟨n, (k, .ip [.sl .any S1 (q.l.map f1), .im ks agg es, .sl .any 1 (fo.map fun p => [.sl .any S (p.l.map f)])]) :: tm, ((h.upd bm none).upd bo none).upd bg none, ms, h0⟩) : AW P ρ c Q ⟨n, tm, h, ms, h0⟩ := by
  have n1 : bg ≠ bm := fun e => by rw [e, hmap] at hrow; cases hrow
  have n2 : bo ≠ bm := fun e => by rw [e, hmap] at hfo; cases hfo
  refine AW_ghost (ghost_inMp (j := 1) hmap hrow rfl) ?_
  have e1 : ((h.upd bm none).upd bg (some (.row ([q.cell f1, .mp bm, .ms bo 0 1 m m].set 1 (.im ks agg es))))) bo = some (.row (fo.map (Gs.cell f))) := by
    rw [Heap.upd_other _ (Ne.symm hne), Heap.upd_other _ n2]; exact hfo
  refine AW_ghost (ghost_rowW (ds' := fo.map fun p => .sl .any S (p.l.map f)) e1 (by simp) fun i x y hx hy => ?_) ?_
  · rw [List.getElem?_map, Option.map_eq_some_iff] at hx hy
    obtain ⟨p, hp, rfl⟩ := hx
    obtain ⟨p', hp', rfl⟩ := hy
    rw [hp] at hp'; injection hp' with hp'; subst hp'
    exact ⟨fun _ => rfl, fun I v hv => VR.gs (hfs p (List.mem_of_getElem? hp)) hv⟩
  refine AW_ghost (ghost_in (b := bo) (c := bg) (cs := fo.map fun p => .sl .any S (p.l.map f)) (ds := [q.cell f1, .im ks agg es, .ms bo 0 1 m m]) (ds' := [q.cell f1, .im ks agg es, .sl .any 1 (fo.map fun p => [.sl .any S (p.l.map f)])]) (Heap.upd_same _ _ _) (by rw [Heap.upd_other _ hne, Heap.upd_same]; rfl) hne rfl fun i x y hx hy => ?_) ?_
  · rcases i with _ | _ | _ | i
    · injection hx with hx; injection hy with hy; subst hx; subst hy; exact ⟨id, .refl _⟩
    · injection hx with hx; injection hy with hy; subst hx; subst hy; exact ⟨id, .refl _⟩
    · injection hx with hx; injection hy with hy; subst hx; subst hy
      refine ⟨fun _ => rfl, .ms 0 1 m m _ (by simpa using hm) (by simp) (fun i e j a h1 h2 => ?_) (Nat.le_refl _)⟩
      rw [List.getElem?_map, Option.map_eq_some_iff] at h1
      obtain ⟨p, hp, rfl⟩ := h1
      have hj : j = 0 := by have := (List.getElem?_eq_some_iff.1 h2).1; simpa using this
      subst hj
      injection h2 with h2
      subst h2
      simp [hp]
    · simp at hx
  refine AW_ghost (ghost_rowW (ds' := [.sl .any S1 (q.l.map f1), .im ks agg es, .sl .any 1 (fo.map fun p => [.sl .any S (p.l.map f)])]) (Heap.upd_same _ _ _) rfl fun i x y hx hy => ?_) ?_
  · rcases i with _ | _ | _ | i
    · injection hx with hx; injection hy with hy; subst hx; subst hy; exact ⟨fun _ => rfl, fun I v hv => VR.gs hq hv⟩
    · injection hx with hx; injection hy with hy; subst hx; subst hy; exact ⟨id, fun _ _ => id⟩
    · injection hx with hx; injection hy with hy; subst hx; subst hy; exact ⟨id, fun _ _ => id⟩
    · simp at hx
  refine AW_ghost (σ' := ⟨n, (k, .ip ([.sl .any S1 (q.l.map f1), .im ks agg es, .sl .any 1 (fo.map fun p => [.sl .any S (p.l.map f)])].drop 0)) :: tm, _, ms, h0⟩) (ghost_freeze (b := bg) (Heap.upd_same _ _ _) fun i y hy => ?_) ?_
  · rw [look_cons] at hy
    by_cases hi : k = i
    · rw [if_pos hi] at hy
      injection hy with hy
      subst hi; subst hy
      exact ⟨_, hk, .ptr 0⟩
    · rw [if_neg hi] at hy
      exact ⟨y, hy, .refl _⟩
  · have he : ∀ X Y Z W : Option AObj, ((((((h.upd bm none).upd bg X).upd bo Y).upd bo none).upd bg Z).upd bg W).upd bg none = ((h.upd bm none).upd bo none).upd bg none := by
      intro X Y Z W
      funext x
      simp only [Heap.upd]
      by_cases h1 : x = bg <;> by_cases h2 : x = bo <;> by_cases h3 : x = bm <;> simp_all
    rw [show ∀ X Y Z W : Option AObj, (AS.mk n tm ((((((h.upd bm none).upd bg X).upd bo Y).upd bo none).upd bg Z).upd bg W) ms h0).h.upd bg none = ((h.upd bm none).upd bo none).upd bg none from he]
    exact kk
theorem AL_storeC {x y : Operand} {t : TypeId} {dd : TypeDesc} {m b off : Nat} {cs vs : List AV} {v : AV} (hvs : acells v = vs) (hg : o.guard = none) (hdst : o.dst = none) (ho : o.op = .store t x y) (ht : TyF P t dd m) (hx : ev tm x = some (.ptr b off)) (hy : ev tm y = some v) (hb : h b = some (.row cs))
    (h1 : acell1 v = true) (hn : vs.length = m) (hle : off + m ≤ cs.length) (k : AL P ρ ops l Q ⟨n, tm, h.upd b (some (.row (setCells cs off vs))), ms, h0⟩) : AL P ρ ops (o :: l) Q ⟨n, tm, h, ms, h0⟩ := by
  subst hvs; exact AL_store hg hdst ho ht hx hy hb h1 hn hle k
end
end Go.AM
namespace Go.AM.Tryd
open Go Go.AM Go.AM.D
section
variable {ρ : Option Nat} {o : Oper} {n : Nat} {tm : List (Nat × AV)} {h h0 : Heap} {ms : List Nat} {σ : AS}
theorem PO_lookT {m x : Operand} {b : Nat} {t : Term} {names : List Term} (ho : o.op = .lookup i59 m x true) (hm : ev σ.tm m = some (.mp b)) (hb : σ.h b = some (.map ks25 true (atL names 0))) (hx : ev σ.tm x = some (.agg (eTerm t))) : PO PR ρ o σ (.tup [.lit (.int .i64 (lookI t names)), .lit (.bool (lookB t names))]) := by
  rw [← look_tup]; exact PO_lookup (k := tkey t) ho un59 key25 zw3 hm hb hx rfl rfl
theorem PO_lookO {m x : Operand} {b : Nat} {t : Term} {names : List Term} (ho : o.op = .lookup i59 m x false) (hm : ev σ.tm m = some (.mp b)) (hb : σ.h b = some (.map ks25 true (atL names 0))) (hx : ev σ.tm x = some (.agg (eTerm t))) : PO PR ρ o σ (.lit (.int .i64 (lookI t names))) := by
  rw [← look_one]; exact PO_lookup (k := tkey t) ho un59 key25 zw3 hm hb hx rfl rfl
theorem PO_lookT' {m x : Operand} {t : Term} {names : List Term} (ho : o.op = .lookup i59 m x true) (hm : ev σ.tm m = some (.im ks25 true (atL names 0))) (hx : ev σ.tm x = some (.agg (eTerm t))) : PO PR ρ o σ (.tup [.lit (.int .i64 (lookI t names)), .lit (.bool (lookB t names))]) := by
  rw [← look_tup]; exact PO_lookup_im (k := tkey t) ho un59 key25 zw3 hm hx rfl rfl
theorem PO_lookO' {m x : Operand} {t : Term} {names : List Term} (ho : o.op = .lookup i59 m x false) (hm : ev σ.tm m = some (.im ks25 true (atL names 0))) (hx : ev σ.tm x = some (.agg (eTerm t))) : PO PR ρ o σ (.lit (.int .i64 (lookI t names))) := by
  rw [← look_one]; exact PO_lookup_im (k := tkey t) ho un59 key25 zw3 hm hx rfl rfl
end
end Go.AM.Tryd
end
section
set_option maxRecDepth 100000
set_option maxHeartbeats 4000000
set_option linter.unusedVariables false
set_option linter.unusedSimpArgs false
namespace Go.AM.Tryd
open Go Go.AM Go.AM.D
theorem see_ (l : List Rule) (hl : okRs l) (hbods : bods l ≤ 1048576) : PFn PR (.fn (.func 12) [] []) [.sl .any 13 (l.map eRule)] (.ip (eGraph (seeG l))) := by
  have hl1 := hl.1
  refine PFn_of Go.Proofs.Tryz.func12 rfl (by rfl) Go.Proofs.Tryz.ntmps12 rfl (by simp) fun h => ?_
  refine AW_x [(1, 3)] [(11, 5)] ?_
  refine AL_makeMap ks25 true rfl rfl rfl rfl fun bm hbm => ?_
  refine AL_x [2] [] 1 ?_
  refine ⟨(.agg [.sl .nil 0 [], .mp bm, .sl .nil 0 []]), PO_build rfl z62 pl62 rfl rfl, ?_⟩
  refine AL_boxm rfl rfl rfl rfl rfl rfl fun bg hbg0 => ?_
  have hbg : h bg = none := Heap.none_of (Heap.le_upd (.refl h) hbm _) hbg0
  have hgm : bg ≠ bm := fun e => by rw [e, Heap.upd_same] at hbg0; cases hbg0
  have hle1 : h.le ((h.upd bm (some (.map ks25 true []))).upd bg (some (.row [.sl .nil 0 [], .mp bm, .sl .nil 0 []]))) := Heap.le_upd (Heap.le_upd (.refl h) hbm _) hbg _
  have hrow1 : ((h.upd bm (some (.map ks25 true []))).upd bg (some (.row [.sl .nil 0 [], .mp bm, .sl .nil 0 []]))) bg = (some (.row [.sl .nil 0 [], .mp bm, .sl .nil 0 []])) := Heap.upd_same _ _ _
  have hmap1 : ((h.upd bm (some (.map ks25 true []))).upd bg (some (.row [.sl .nil 0 [], .mp bm, .sl .nil 0 []]))) bm = some (.map ks25 true (atL [] 0)) := (Heap.upd_other _ hgm.symm _).trans (Heap.upd_same _ _ _)
  have htok1 : Toks 3 ((h.upd bm (some (.map ks25 true []))).upd bg (some (.row [.sl .nil 0 [], .mp bm, .sl .nil 0 []]))) h [((⟨.nil, 0, []⟩ : Gs Term).own, 0)] := ⟨fun i o m e => by
    rcases i with _ | i
    · injection e with e; injection e with e1 e2; exact .inl ⟨e1.symm, e2.symm⟩
    · simp at e, fun i j b m m' e1 e2 => by
    rcases i with _ | i
    · injection e1 with e1; injection e1 with e1 _; cases e1
    · simp at e1⟩
  refine AL_x [] [] 3 ?_
  refine ⟨L22, _, lm, ?_⟩
  refine AW_it [(9, 0)] [] [(0, _), (2, _), (3, _), (21, _), (22, _)] (fun (z_ : Nat × Gs Term × Heap) => match z_ with | (i, q, hp) => [(23, .lit (.int .i64 ((i : Nat) : Int)))]) (fun (z_ : Nat × Gs Term × Heap) => match z_ with | (i, q, hp) => hp) (fun (z_ : Nat × Gs Term × Heap) => match z_ with | (i, q, hp) => i ≤ l.length ∧ predF l [] = predF (l.drop i) q.l ∧ q.l.length ≤ i ∧ (q.S = 3 ∨ q.l = []) ∧ h.le hp ∧ hp bg = (some (.row [q.cell eTerm, .mp bm, .sl .nil 0 []])) ∧ hp bm = some (.map ks25 true (atL q.l 0)) ∧ Toks 3 hp h [(q.own, q.l.length)]) (fun (z_ : Nat × Gs Term × Heap) => match z_ with | (i, q, hp) => l.length - i) ((0, ⟨.nil, 0, []⟩, ((h.upd bm (some (.map ks25 true []))).upd bg (some (.row [.sl .nil 0 [], .mp bm, .sl .nil 0 []]))))) ⟨rfl, rfl, rfl, rfl, rfl, trivial⟩ ⟨rfl, trivial⟩ rfl (⟨by omega, rfl, by simp, .inr rfl, hle1, hrow1, hmap1, htok1⟩) ?_
  rintro ⟨i, q, hp⟩ ⟨hIi, hS, hql, hqS, hle, hrow, hmap, htok⟩
  refine brD (fun hc3 => ?_) (fun hc3 => ?_)
  · skip
    obtain ⟨r, hrr, hdr, hmr⟩ := drop_at (l := l) (i := i) (by omega)
    rw [hdr, predF] at hS
    refine ⟨L22, _, ⟨rfl, (by first | decide | omega), (mget hrr)⟩, T46, ?_⟩
    refine AL_als rfl rfl rfl rfl rfl rfl al46 rfl rfl rfl rfl rfl ?_
    refine AL_nil ?_
    refine ⟨F46_0, A43, by decide, T41, ?_⟩
    refine AL_als rfl rfl rfl rfl rfl rfl al41 rfl rfl rfl rfl rfl ?_
    refine AL_nil ?_
    refine ⟨⟨hmixed, by kernel_rfl⟩, F62_1, T59, _, _, ⟨hrow, rfl⟩, F41_1, T25, (.tup [.lit (.int .i64 (lookI r.head.b.term q.l)), .lit (.bool (lookB r.head.b.term q.l))]), PO_lookT rfl rfl hmap rfl, F41_0, T9, _, fun hg43 => rfl, fun hc7 => ?_, fun hc7 => ?_⟩
    · skip
      simp only [Bool.and_eq_true, decide_eq_true_eq, Bool.not_eq_true', lookB, decide_eq_false_iff_not] at hc7
      have hnew : atF r.head.b.term q.l 0 = -1 := by have := atF_ge r.head.b.term q.l 0; omega
      rw [if_pos (by simp only [hc7.1, decide_true, Bool.true_and, decide_eq_true_eq]; omega)] at hS
      refine ⟨⟨hmixed, by kernel_rfl⟩, F62_1, T59, _, _, ⟨hrow, rfl⟩, F41_1, T25, F62_0, T37, _, _, ⟨hrow, rfl⟩, L37, _, lm, ?_⟩
      refine AL_mapUpdG (b := bm) (es := atL q.l 0) (k := tkey r.head.b.term) (v := .lit (.int .i64 (q.l.length : Int))) rfl rfl (.inl rfl) un59 key25 rfl hmap rfl rfl rfl rfl ?_
      have hsn := atL_snoc r.head.b.term q.l 0 (by omega) hnew
      rw [Int.zero_add] at hsn
      rw [hsn]
      have hrow2 := (Heap.upd_other hp hgm (some (.map ks25 true (atL (q.l ++ [r.head.b.term]) 0)))).trans hrow
      have hmap2 := Heap.upd_same hp bm (some (.map ks25 true (atL (q.l ++ [r.head.b.term]) 0)))
      have hle2 := Heap.le_upd hle hbm (some (.map ks25 true (atL (q.l ++ [r.head.b.term]) 0)))
      have htok2 := htok.upd (b := bm) (x := some (.map ks25 true (atL (q.l ++ [r.head.b.term]) 0))) (fun m S e => by rw [hmap] at e; cases e)
      generalize hp.upd bm (some (.map ks25 true (atL (q.l ++ [r.head.b.term]) 0))) = h2 at hrow2 hmap2 hle2 htok2 ⊢
      refine AL_nil ?_
      refine AW_draw1 8 [.ptr bg 0, .ptr bg 0, .ptr bg 0, .ptr bg (0 + 0), .sl q.own q.S (q.l.map eTerm), .ip (List.drop 1 (eSlot r.head.b)), .agg (eTerm r.head.b.term), .sl .full 3 ([r.head.b.term].map eTerm)] [(23, .lit (.int .i64 ((i : Nat) : Int))), (0, .sl .any 13 (l.map eRule)), (2, .lit (.pointer none)), (3, .ptr bg 0), (21, .sl .any 13 (l.map eRule)), (22, .lit (.int .i64 (l.length : Int))), (24, .lit (.bool (decide ((((i : Nat) : Int) : Int) < (l.length : Int))))), (5, .ip (eRule r)), (6, .ip (eSlot r.head.b)), (8, .lit (.bool (lookB r.head.b.term q.l))), (46, .lit (.bool ((decide (r.head.b.var = ⟨#[]⟩)) && (!(lookB r.head.b.term q.l))))), (58, .ptr bg 0), (59, .ptr bg 0), (60, .ptr bg 0), (61, .ptr bg (0 + 0)), (62, .sl q.own q.S (q.l.map eTerm)), (63, .ip (List.drop 1 (eSlot r.head.b))), (64, .agg (eTerm r.head.b.term)), (65, .sl .full 3 ([r.head.b.term].map eTerm))] (fun hh => hh bg = (some (.row [q.cell eTerm, .mp bm, .sl .nil 0 []]))) _ (tmx := [(62, .sl q.own q.S (q.l.map eTerm)), (65, .sl .full 3 ([r.head.b.term].map eTerm))]) rfl hmixed (by kernel_rfl) rfl rfl rfl rfl rfl hrow2 ⟨.inl ⟨4, by kernel_rfl, rfl, rfl⟩, .inl ⟨7, by kernel_rfl, rfl, rfl⟩, trivial⟩ (MO_appT (f := eTerm) (acc := q.l) (ys := [r.head.b.term]) (os := [(q.own, q.l.length)]) (i := 0) rfl un37 un37 ty25 z25 rfl by25 rfl rfl hqS (by simp) htok2 rfl hle2 (by simp only [List.length_singleton]; omega) (by simp only [List.length_singleton]; omega)) (fun _ _ ⟨_, _, _, _, hs⟩ => hs.row hrow2) rfl (by kernel_rfl) (fun hh hK => ⟨
        ⟨[(3, .ptr bg 0)], ⟨.inr ⟨by kernel_rfl, rfl⟩, trivial⟩, .inl ⟨rfl, PO_move rfl rfl⟩⟩,
        ⟨[(3, .ptr bg 0)], ⟨.inr ⟨by kernel_rfl, rfl⟩, trivial⟩, .inl ⟨rfl, PO_move rfl rfl⟩⟩,
        ⟨[(59, .ptr bg 0)], ⟨.inl ⟨1, by kernel_rfl, rfl, rfl⟩, trivial⟩, .inl ⟨rfl, PO_nilCheck_ptr rfl rfl⟩⟩,
        ⟨[(60, .ptr bg 0)], ⟨.inl ⟨2, by kernel_rfl, rfl, rfl⟩, trivial⟩, .inl ⟨rfl, PO_fieldAddr_row rfl f62_0 rfl⟩⟩,
        ⟨[(61, .ptr bg (0 + 0))], ⟨.inl ⟨3, by kernel_rfl, rfl, rfl⟩, trivial⟩, .inl ⟨rfl, PO_load_row rfl ty37 rfl hK rfl⟩⟩,
        ⟨[(6, .ip (eSlot r.head.b))], ⟨.inr ⟨by kernel_rfl, rfl⟩, trivial⟩, .inl ⟨rfl, PO_fieldAddr rfl f41_1 rfl⟩⟩,
        ⟨[(63, .ip (List.drop 1 (eSlot r.head.b)))], ⟨.inl ⟨5, by kernel_rfl, rfl, rfl⟩, trivial⟩, .inl ⟨rfl, PO_load rfl ty25 rfl rfl⟩⟩,
        ⟨[(64, .agg (eTerm r.head.b.term))], ⟨.inl ⟨6, by kernel_rfl, rfl, rfl⟩, trivial⟩, .inl ⟨rfl, PO_buildSlice (n := 1) (S := 3) (rs := eTerm r.head.b.term ++ []) rfl un37 ty25 z25 rfl rfl rfl (by decide) rfl (by decide)⟩⟩,
        trivial⟩) ⟨.inr ⟨by kernel_rfl, rfl⟩, .inr ⟨by kernel_rfl, rfl⟩, .inr ⟨by kernel_rfl, rfl⟩, .inr ⟨by kernel_rfl, rfl⟩, .inr ⟨by kernel_rfl, rfl⟩, .inr ⟨by kernel_rfl, rfl⟩, .inr ⟨by kernel_rfl, rfl⟩, .inr ⟨by kernel_rfl, rfl⟩, .inr ⟨by kernel_rfl, rfl⟩, .inr ⟨by kernel_rfl, rfl⟩, .inr ⟨by kernel_rfl, rfl⟩, .inl ⟨0, by decide, rfl, rfl⟩, .inl ⟨1, by decide, rfl, rfl⟩, .inl ⟨2, by decide, rfl, rfl⟩, .inl ⟨3, by decide, rfl, rfl⟩, .inl ⟨4, by decide, rfl, rfl⟩, .inl ⟨5, by decide, rfl, rfl⟩, .inl ⟨6, by decide, rfl, rfl⟩, .inl ⟨7, by decide, rfl, rfl⟩, trivial⟩ ?_
      rintro _ hq ⟨own2, rfl, hT, hleq, hsame⟩
      refine AL_p rfl rfl rfl (v := .ptr bg 0) (PO_nilCheck_ptr rfl rfl) ?_
      refine AL_p rfl rfl rfl (v := .ptr bg (0 + 0)) (PO_fieldAddr_row rfl f62_0 rfl) ?_
      refine AL_storeC (b := bg) (off := 0) (cs := [q.cell eTerm, .mp bm, .sl .nil 0 []]) (vs := [.sl own2 3 ((q.l ++ [r.head.b.term]).map eTerm)]) (v := .sl own2 3 ((q.l ++ [r.head.b.term]).map eTerm)) rfl rfl rfl rfl ty37 rfl rfl (hsame.row hrow2) rfl rfl (by simp) ?_
      have hrow3 := Heap.upd_same hq bg (some (.row (setCells [q.cell eTerm, .mp bm, .sl .nil 0 []] 0 [.sl own2 3 ((q.l ++ [r.head.b.term]).map eTerm)])))
      have hmap3 := (Heap.upd_other hq hgm.symm (some (.row (setCells [q.cell eTerm, .mp bm, .sl .nil 0 []] 0 [.sl own2 3 ((q.l ++ [r.head.b.term]).map eTerm)])))).trans (hsame.map hmap2)
      have hle3 := Heap.le_upd hleq hbg (some (.row (setCells [q.cell eTerm, .mp bm, .sl .nil 0 []] 0 [.sl own2 3 ((q.l ++ [r.head.b.term]).map eTerm)])))
      have htok3 := hT.upd (b := bg) (x := some (.row (setCells [q.cell eTerm, .mp bm, .sl .nil 0 []] 0 [.sl own2 3 ((q.l ++ [r.head.b.term]).map eTerm)]))) (fun m S e => by rw [hsame.row hrow2] at e; cases e)
      generalize hq.upd bg (some (.row (setCells [q.cell eTerm, .mp bm, .sl .nil 0 []] 0 [.sl own2 3 ((q.l ++ [r.head.b.term]).map eTerm)]))) = h3 at hrow3 hmap3 hle3 htok3 ⊢
      refine AL_nil ?_
      refine ⟨_, f1 (by first | omega | (simp_all <;> omega)), ?_⟩
      exact ⟨(i + 1, ⟨own2, 3, q.l ++ [r.head.b.term]⟩, h3), ⟨by omega, hS, by simp; omega, .inl rfl, hle3, hrow3, hmap3, htok3⟩, by simp only []; omega, ⟨rfl, ⟨rfl, rfl, rfl, rfl, rfl, rfl, trivial⟩, rfl, rfl, rfl⟩⟩
    · skip
      rw [if_neg (by simp only [Bool.and_eq_true, decide_eq_true_eq]; rintro ⟨h1, h2⟩; rw [h1] at hc7; simp only [decide_true, Bool.true_and, Bool.not_eq_false', lookB, decide_eq_true_eq] at hc7; omega)] at hS
      refine ⟨_, f1 (by first | omega | (simp_all <;> omega)), ?_⟩
      exact ⟨(i + 1, q, hp), ⟨by omega, hS, by omega, hqS, hle, hrow, hmap, htok⟩, by simp only []; omega, ⟨rfl, ⟨rfl, rfl, rfl, rfl, rfl, rfl, trivial⟩, rfl, rfl, rfl⟩⟩
  · skip
    rw [drop_end (l := l) (i := i) (by omega), predF] at hS
    have hnm := hS
    rw [← hS] at hmap
    have hNl := predF_len l []
    simp only [List.length_nil] at hNl
    refine ⟨F62_0, T37, _, _, ⟨hrow, rfl⟩, (.lit (.int .i64 ((predF l []).length : Int))), PO_eqI (PO_lenM rfl un37 rfl) (by rw [hnm]), ?_⟩
    refine AL_makeSl rfl rfl rfl rfl un60 ty81 z81 rfl by81 rfl rfl (by omega) (by omega) fun bo hbo0 => ?_
    have hbo1 : hp bo = none := hbo0
    have hbo : h bo = none := Heap.none_of hle hbo1
    have hgo : bg ≠ bo := fun e => by rw [← e, hrow] at hbo1; cases hbo1
    have hmo : bm ≠ bo := fun e => by rw [← e, hmap] at hbo1; cases hbo1
    have hz0 : azeros zs81 (predF l []).length = (List.replicate (predF l []).length (⟨.nil, 0, []⟩ : Gs Edg)).map (Gs.cell eEdg) := by
      rw [List.map_replicate]
      generalize (predF l []).length = m
      induction m with
      | zero => rfl
      | succ m ih => rw [List.replicate_succ, ← ih]; rfl
    rw [hz0]
    have hrow4 := (Heap.upd_other hp hgo (some (.row ((List.replicate (predF l []).length (⟨.nil, 0, []⟩ : Gs Edg)).map (Gs.cell eEdg))))).trans hrow
    have hmap4 := (Heap.upd_other hp hmo (some (.row ((List.replicate (predF l []).length (⟨.nil, 0, []⟩ : Gs Edg)).map (Gs.cell eEdg))))).trans hmap
    have hfo4 := Heap.upd_same hp bo (some (.row ((List.replicate (predF l []).length (⟨.nil, 0, []⟩ : Gs Edg)).map (Gs.cell eEdg))))
    have hle4 := Heap.le_upd hle hbo (some (.row ((List.replicate (predF l []).length (⟨.nil, 0, []⟩ : Gs Edg)).map (Gs.cell eEdg))))
    generalize hp.upd bo (some (.row ((List.replicate (predF l []).length (⟨.nil, 0, []⟩ : Gs Edg)).map (Gs.cell eEdg)))) = h4 at hrow4 hmap4 hfo4 hle4 ⊢
    refine AL_x [] [] 7 ?_
    refine ⟨F62_2, ?_⟩
    refine AL_storeC (b := bg) (off := 2) (cs := [q.cell eTerm, .mp bm, .sl .nil 0 []]) (vs := [.ms bo 0 1 (predF l []).length (predF l []).length]) (v := .ms bo 0 1 (predF l []).length (predF l []).length) rfl rfl rfl rfl ty60 rfl rfl hrow4 rfl rfl (by simp) ?_
    have hrow5 := Heap.upd_same h4 bg (some (.row (setCells [q.cell eTerm, .mp bm, .sl .nil 0 []] 2 [.ms bo 0 1 (predF l []).length (predF l []).length])))
    have hmap5 := (Heap.upd_other h4 hgm.symm (some (.row (setCells [q.cell eTerm, .mp bm, .sl .nil 0 []] 2 [.ms bo 0 1 (predF l []).length (predF l []).length])))).trans hmap4
    have hfo5 : Forest eEdg 2 (h4.upd bg (some (.row (setCells [q.cell eTerm, .mp bm, .sl .nil 0 []] 2 [.ms bo 0 1 (predF l []).length (predF l []).length])))) h bo (List.replicate (predF l []).length ⟨.nil, 0, []⟩) := ⟨(Heap.upd_other h4 hgo.symm (some (.row (setCells [q.cell eTerm, .mp bm, .sl .nil 0 []] 2 [.ms bo 0 1 (predF l []).length (predF l []).length])))).trans hfo4, ⟨(fun i o m e => by
      rw [List.map_replicate, List.getElem?_replicate] at e
      split at e
      · injection e with e; injection e with e1 e2; exact .inl ⟨e1.symm, e2.symm⟩
      · cases e), (fun i j b m m' e1 e2 => by
      rw [List.map_replicate, List.getElem?_replicate] at e1
      split at e1
      · injection e1 with e1; injection e1 with e1 _; cases e1
      · cases e1)⟩, fun p hp => by rw [List.eq_of_mem_replicate hp]; exact .inr rfl⟩
    have hle5 := Heap.le_upd hle4 hbg (some (.row (setCells [q.cell eTerm, .mp bm, .sl .nil 0 []] 2 [.ms bo 0 1 (predF l []).length (predF l []).length])))
    generalize h4.upd bg (some (.row (setCells [q.cell eTerm, .mp bm, .sl .nil 0 []] 2 [.ms bo 0 1 (predF l []).length (predF l []).length]))) = h5 at hrow5 hmap5 hfo5 hle5 ⊢
    refine AL_nil ?_
    refine ⟨L22, _, lm, ?_⟩
    refine AW_it [] [(16, 9)] [(2, _), (3, _), (79, _), (80, _)] (fun (z_ : Nat × Nat × List (Gs Edg) × Heap) => match z_ with | (i, c, fo, hp) => [(81, .lit (.int .i64 ((i : Nat) : Int)))]) (fun (z_ : Nat × Nat × List (Gs Edg) × Heap) => match z_ with | (i, c, fo, hp) => hp) (fun (z_ : Nat × Nat × List (Gs Edg) × Heap) => match z_ with | (i, c, fo, hp) => i ≤ l.length ∧ c + bods (l.drop i) ≤ 1048576 ∧ outF (predF l []) l (List.replicate (predF l []).length []) = outF (predF l []) (l.drop i) (fo.map Gs.l) ∧ (∀ p ∈ fo, p.l.length ≤ 1048576 * c) ∧ h.le hp ∧ hp bg = (some (.row [q.cell eTerm, .mp bm, .ms bo 0 1 (predF l []).length (predF l []).length])) ∧ hp bm = some (.map ks25 true (atL (predF l []) 0)) ∧ Forest eEdg 2 hp h bo fo ∧ fo.length = (predF l []).length) (fun (z_ : Nat × Nat × List (Gs Edg) × Heap) => match z_ with | (i, c, fo, hp) => l.length - i) ((0, 0, (List.replicate (predF l []).length ⟨.nil, 0, []⟩), h5)) ⟨rfl, rfl, rfl, rfl, trivial⟩ ⟨rfl, trivial⟩ rfl (⟨by omega, by simpa using hbods, by rw [List.map_replicate]; rfl, fun p hp => by rw [List.eq_of_mem_replicate hp]; simp, hle5, hrow5, hmap5, hfo5, by simp⟩) ?_
    rintro ⟨i, c, fo, hp⟩ ⟨hIi, hcb, hS, hbd, hleA, hrwA, hmpA, hfoA, hlnA⟩
    refine brD (fun hc13 => ?_) (fun hc13 => ?_)
    · skip
      obtain ⟨r, hrr, hdr, hmr⟩ := drop_at (l := l) (i := i) (by omega)
      rw [hdr, outF] at hS
      rw [hdr, bods] at hcb
      have hokr := hl.2 r hmr
      refine ⟨L22, _, ⟨rfl, (by first | decide | omega), (mget hrr)⟩, T46, ?_⟩
      refine AL_als rfl rfl rfl rfl rfl rfl al46 rfl rfl rfl rfl rfl ?_
      refine AL_nil ?_
      refine ⟨F46_0, A43, by decide, F41_0, T9, brD (fun hc15 => ?_) (fun hc15 => ?_)⟩
      · skip
        rw [if_pos hc15] at hS
        refine ⟨_, f1 (by first | omega | (simp_all <;> omega)), ?_⟩
        exact ⟨(i + 1, c, fo, hp), ⟨by omega, by omega, hS, hbd, hleA, hrwA, hmpA, hfoA, hlnA⟩, by simp only []; omega, ⟨rfl, ⟨rfl, rfl, rfl, rfl, rfl, trivial⟩, rfl, rfl, rfl⟩⟩
      · skip
        rw [if_neg hc15] at hS
        have hlk := lookI_lt (predF_has (acc := []) hmr (by simpa using hc15))
        obtain ⟨fr, hfr⟩ : ∃ fr, fr = (lookI r.head.b.term (predF l [])).toNat := ⟨_, rfl⟩
        have hfrI : lookI r.head.b.term (predF l []) = ((fr : Nat) : Int) := by omega
        have hfrl : fr < (predF l []).length := by omega
        refine ⟨⟨hmixed, by kernel_rfl⟩, F62_1, T59, _, _, ⟨hrwA, rfl⟩, F46_0, A43, by decide, F41_1, T25, (.lit (.int .i64 (lookI r.head.b.term (predF l [])))), PO_lookO rfl rfl hmpA rfl, (.lit (.int .i64 ((fr : Nat) : Int))), PO_eqI (PO_assign rfl rfl) hfrI, F46_1, T44, L44, _, lm, ?_⟩
        refine AW_it [(19, 0), (23, 0)] [(26, 4), (23, 10), (23, 11), (23, 19)] [(81, _), (2, _), (3, _), (79, _), (80, _), (11, _), (100, _), (101, _)] (fun (z_ : Nat × List (Gs Edg) × Heap) => match z_ with | (k, fo2, hp2) => [(102, .lit (.int .i64 ((k : Nat) : Int)))]) (fun (z_ : Nat × List (Gs Edg) × Heap) => match z_ with | (k, fo2, hp2) => hp2) (fun (z_ : Nat × List (Gs Edg) × Heap) => match z_ with | (k, fo2, hp2) => k ≤ r.body.length ∧ outF (predF l []) l (List.replicate (predF l []).length []) = outF (predF l []) (l.drop (i + 1)) (addE (fo2.map Gs.l) fr (edgesL (predF l []) (r.body.drop k))) ∧ (∀ p ∈ fo2, p.l.length ≤ 1048576 * (c + k)) ∧ h.le hp2 ∧ hp2 bg = (some (.row [q.cell eTerm, .mp bm, .ms bo 0 1 (predF l []).length (predF l []).length])) ∧ hp2 bm = some (.map ks25 true (atL (predF l []) 0)) ∧ Forest eEdg 2 hp2 h bo fo2 ∧ fo2.length = (predF l []).length) (fun (z_ : Nat × List (Gs Edg) × Heap) => match z_ with | (k, fo2, hp2) => r.body.length - k) ((0, fo, hp)) ⟨rfl, rfl, rfl, rfl, rfl, rfl, rfl, rfl, trivial⟩ ⟨rfl, trivial⟩ rfl (⟨by omega, by rw [hfr]; exact hS, fun p hp => by have := hbd p hp; omega, hleA, hrwA, hmpA, hfoA, hlnA⟩) ?_
        rintro ⟨k, fo2, hp2⟩ ⟨hIk, hS2, hbd2, hleB, hrwB, hmpB, hfoB, hlnB⟩
        refine brD (fun hc18 => ?_) (fun hc18 => ?_)
        · skip
          obtain ⟨x, hrx, hdx, hmx⟩ := drop_at (l := r.body) (i := k) (by omega)
          rw [hdx, edgesL, edgeL] at hS2
          refine AW_join (α := List (Gs Edg) × Heap) (fun (z_ : List (Gs Edg) × Heap) => match z_ with | (fo3, hp3) => [(102, .lit (.int .i64 ((k : Nat) : Int))), (81, .lit (.int .i64 ((i : Nat) : Int))), (2, .lit (.pointer none)), (3, .ptr bg 0), (79, .sl .any 13 (l.map eRule)), (80, .lit (.int .i64 (l.length : Int))), (11, .lit (.int .i64 ((fr : Nat) : Int))), (100, .sl .any 21 (r.body.map eLit)), (101, .lit (.int .i64 (r.body.length : Int)))]) (fun (z_ : List (Gs Edg) × Heap) => match z_ with | (fo3, hp3) => hp3) (fun (z_ : List (Gs Edg) × Heap) => match z_ with | (fo3, hp3) => outF (predF l []) l (List.replicate (predF l []).length []) = outF (predF l []) (l.drop (i + 1)) (addE (fo3.map Gs.l) fr (edgesL (predF l []) (r.body.drop (k + 1)))) ∧ (∀ p ∈ fo3, p.l.length ≤ 1048576 * (c + k + 1)) ∧ h.le hp3 ∧ hp3 bg = (some (.row [q.cell eTerm, .mp bm, .ms bo 0 1 (predF l []).length (predF l []).length])) ∧ hp3 bm = some (.map ks25 true (atL (predF l []) 0)) ∧ Forest eEdg 2 hp3 h bo fo3 ∧ fo3.length = (predF l []).length) ?_ ?_
          · skip
            refine AW_x [(23, 0)] [(26, 4), (23, 10), (23, 11), (23, 19)] ?_
            refine ⟨L44, _, ⟨rfl, (by first | decide | omega), (mget hrx)⟩, T68, ?_⟩
            refine AL_als rfl rfl rfl rfl rfl rfl al68 rfl rfl rfl rfl rfl ?_
            refine AL_nil ?_
            refine ⟨F68_1, A43, by decide, T41, ?_⟩
            refine AL_als rfl rfl rfl rfl rfl rfl al41 rfl rfl rfl rfl rfl ?_
            refine AL_nil ?_
            refine ⟨F68_0, T66, _, fun hg144 => ⟨F68_0, T66, rfl⟩, fun hc24 => ?_, fun hc24 => ?_⟩
            · skip
              rw [if_pos hc24, List.nil_append] at hS2
              exact ⟨(fo2, hp2), ⟨hS2, fun p hp => by have := hbd2 p hp; omega, hleB, hrwB, hmpB, hfoB, hlnB⟩, ⟨rfl, ⟨rfl, rfl, rfl, rfl, rfl, rfl, rfl, rfl, rfl, trivial⟩, rfl, rfl, rfl⟩⟩
            · skip
              rw [if_neg (by rw [hc24]; simp)] at hS2
              refine ⟨F41_0, T9, brD (fun hc25 => ?_) (fun hc25 => ?_)⟩
              · skip
                rw [if_pos hc25] at hS2
                refine ⟨F62_0, T37, _, _, ⟨hrwB, rfl⟩, (.lit (.int .i64 ((predF l []).length : Int))), PO_eqI (PO_lenM rfl un37 rfl) (by rw [hnm]), ?_⟩
                refine AW_it [(29, 0)] [(29, 10), (29, 11), (29, 16)] [(102, _), (81, _), (2, _), (3, _), (79, _), (80, _), (11, _), (100, _), (101, _), (157, _)] (fun (z_ : Nat × List (Gs Edg) × Heap) => match z_ with | (j, fo4, hp4) => [(158, .lit (.int .i64 ((j : Nat) : Int)))]) (fun (z_ : Nat × List (Gs Edg) × Heap) => match z_ with | (j, fo4, hp4) => hp4) (fun (z_ : Nat × List (Gs Edg) × Heap) => match z_ with | (j, fo4, hp4) => j ≤ (predF l []).length ∧ outF (predF l []) l (List.replicate (predF l []).length []) = outF (predF l []) (l.drop (i + 1)) (addE (fo4.map Gs.l) fr ((((List.range (predF l []).length).drop j).map (fun (k : Nat) => (⟨k, false⟩ : Edg))) ++ edgesL (predF l []) (r.body.drop (k + 1)))) ∧ (∀ p ∈ fo4, p.l.length ≤ 1048576 * (c + k) + j) ∧ h.le hp4 ∧ hp4 bg = (some (.row [q.cell eTerm, .mp bm, .ms bo 0 1 (predF l []).length (predF l []).length])) ∧ hp4 bm = some (.map ks25 true (atL (predF l []) 0)) ∧ Forest eEdg 2 hp4 h bo fo4 ∧ fo4.length = (predF l []).length) (fun (z_ : Nat × List (Gs Edg) × Heap) => match z_ with | (j, fo4, hp4) => (predF l []).length - j) ((0, fo2, hp2)) ⟨rfl, rfl, rfl, rfl, rfl, rfl, rfl, rfl, rfl, rfl, trivial⟩ ⟨rfl, trivial⟩ rfl (⟨by omega, hS2, fun p hp => by have := hbd2 p hp; omega, hleB, hrwB, hmpB, hfoB, hlnB⟩) ?_
                rintro ⟨j, fo4, hp4⟩ ⟨hIj, hS4, hbd4, hleD, hrwD, hmpD, hfoD, hlnD⟩
                refine brD (fun hc27 => ?_) (fun hc27 => ?_)
                · skip
                  have hjr : (List.range (predF l []).length).drop j = j :: (List.range (predF l []).length).drop (j + 1) := by
                    rw [List.drop_eq_getElem_cons (by rw [List.length_range]; omega), List.getElem_range]
                  rw [hjr, List.map_cons, List.cons_append] at hS4
                  obtain ⟨p, hp_, -, hpm⟩ := drop_at (l := fo4) (i := fr) (by omega)
                  have hpl := hbd4 p hpm
                  refine AW_draw1 15 [.ptr bg 0, .ptr bg 0, .ptr bg (0 + 2), .ms bo 0 1 ((predF l []).length) ((predF l []).length), .lit (.int .i64 ((fr : Nat) : Int)), .ptr bg 0, .ptr bg 0, .ptr bg (0 + 2), .ms bo 0 1 ((predF l []).length) ((predF l []).length), .lit (.int .i64 ((fr : Nat) : Int)), .ptr bo fr, .sl p.own p.S (p.l.map eEdg), .lit (.int .i64 ((j : Nat) : Int)), .agg (eEdg (⟨((j : Nat) : Int), false⟩ : Edg)), .sl .full 2 ([(⟨((j : Nat) : Int), false⟩ : Edg)].map eEdg)] [(158, .lit (.int .i64 ((j : Nat) : Int))), (102, .lit (.int .i64 ((k : Nat) : Int))), (81, .lit (.int .i64 ((i : Nat) : Int))), (2, .lit (.pointer none)), (3, .ptr bg 0), (79, .sl .any 13 (l.map eRule)), (80, .lit (.int .i64 (l.length : Int))), (11, .lit (.int .i64 ((fr : Nat) : Int))), (100, .sl .any 21 (r.body.map eLit)), (101, .lit (.int .i64 (r.body.length : Int))), (157, .lit (.int .i64 ((predF l []).length : Int))), (159, .lit (.bool (decide ((((j : Nat) : Int) : Int) < ((predF l []).length : Int))))), (15, .lit (.int .i64 ((j : Nat) : Int))), (161, .ptr bg 0), (162, .ptr bg 0), (163, .ptr bg (0 + 2)), (164, .ms bo 0 1 ((predF l []).length) ((predF l []).length)), (165, .lit (.int .i64 ((fr : Nat) : Int))), (166, .ptr bg 0), (167, .ptr bg 0), (168, .ptr bg (0 + 2)), (169, .ms bo 0 1 ((predF l []).length) ((predF l []).length)), (170, .lit (.int .i64 ((fr : Nat) : Int))), (171, .ptr bo fr), (172, .sl p.own p.S (p.l.map eEdg)), (173, .lit (.int .i64 ((j : Nat) : Int))), (174, .agg (eEdg (⟨((j : Nat) : Int), false⟩ : Edg))), (175, .sl .full 2 ([(⟨((j : Nat) : Int), false⟩ : Edg)].map eEdg))] (fun hh => hh bg = (some (.row [q.cell eTerm, .mp bm, .ms bo 0 1 (predF l []).length (predF l []).length])) ∧ hh bo = some (.row (fo4.map (Gs.cell eEdg)))) _ (tmx := [(172, .sl p.own p.S (p.l.map eEdg)), (175, .sl .full 2 ([(⟨((j : Nat) : Int), false⟩ : Edg)].map eEdg))]) rfl hmixed (by kernel_rfl) rfl rfl rfl rfl rfl ⟨hrwD, hfoD.row⟩ ⟨.inl ⟨11, by kernel_rfl, rfl, rfl⟩, .inl ⟨14, by kernel_rfl, rfl, rfl⟩, trivial⟩ (MO_appT (f := eEdg) (acc := p.l) (ys := [(⟨((j : Nat) : Int), false⟩ : Edg)]) (os := fo4.map Gs.ow) (i := fr) rfl un81 un81 ty83 z83 rfl by83 rfl rfl (hfoD.sz p hpm) (by simp) hfoD.toks (by rw [List.getElem?_map, hp_]; rfl) hleD (by simp only [List.length_singleton]; omega) (by simp only [List.length_singleton]; omega)) (fun _ _ ⟨_, _, _, _, hs⟩ => ⟨hs.row hrwD, hs.row hfoD.row⟩) rfl (by kernel_rfl) (fun hh hK => ⟨
                    ⟨[(3, .ptr bg 0)], ⟨.inr ⟨by kernel_rfl, rfl⟩, trivial⟩, .inl ⟨rfl, PO_move rfl rfl⟩⟩,
                    ⟨[(161, .ptr bg 0)], ⟨.inl ⟨0, by kernel_rfl, rfl, rfl⟩, trivial⟩, .inl ⟨rfl, PO_nilCheck_ptr rfl rfl⟩⟩,
                    ⟨[(162, .ptr bg 0)], ⟨.inl ⟨1, by kernel_rfl, rfl, rfl⟩, trivial⟩, .inl ⟨rfl, PO_fieldAddr_row rfl f62_2 rfl⟩⟩,
                    ⟨[(163, .ptr bg (0 + 2))], ⟨.inl ⟨2, by kernel_rfl, rfl, rfl⟩, trivial⟩, .inl ⟨rfl, PO_load_row rfl ty60 rfl hK.1 rfl⟩⟩,
                    ⟨[(11, .lit (.int .i64 ((fr : Nat) : Int)))], ⟨.inr ⟨by kernel_rfl, rfl⟩, trivial⟩, .inl ⟨rfl, PO_move rfl rfl⟩⟩,
                    ⟨[(3, .ptr bg 0)], ⟨.inr ⟨by kernel_rfl, rfl⟩, trivial⟩, .inl ⟨rfl, PO_move rfl rfl⟩⟩,
                    ⟨[(166, .ptr bg 0)], ⟨.inl ⟨5, by kernel_rfl, rfl, rfl⟩, trivial⟩, .inl ⟨rfl, PO_nilCheck_ptr rfl rfl⟩⟩,
                    ⟨[(167, .ptr bg 0)], ⟨.inl ⟨6, by kernel_rfl, rfl, rfl⟩, trivial⟩, .inl ⟨rfl, PO_fieldAddr_row rfl f62_2 rfl⟩⟩,
                    ⟨[(168, .ptr bg (0 + 2))], ⟨.inl ⟨7, by kernel_rfl, rfl, rfl⟩, trivial⟩, .inl ⟨rfl, PO_load_row rfl ty60 rfl hK.1 rfl⟩⟩,
                    ⟨[(11, .lit (.int .i64 ((fr : Nat) : Int)))], ⟨.inr ⟨by kernel_rfl, rfl⟩, trivial⟩, .inl ⟨rfl, PO_move rfl rfl⟩⟩,
                    ⟨[(169, .ms bo 0 1 ((predF l []).length) ((predF l []).length)), (170, .lit (.int .i64 ((fr : Nat) : Int)))], ⟨.inl ⟨8, by kernel_rfl, rfl, rfl⟩, .inl ⟨9, by kernel_rfl, rfl, rfl⟩, trivial⟩, .inl ⟨rfl, PO_ixj rfl un60 ty81 rfl rfl (by omega)⟩⟩,
                    ⟨[(171, .ptr bo fr)], ⟨.inl ⟨10, by kernel_rfl, rfl, rfl⟩, trivial⟩, .inl ⟨rfl, PO_load_row rfl ty81 rfl hK.2 (gs_load hp_ rfl)⟩⟩,
                    ⟨[(15, .lit (.int .i64 ((j : Nat) : Int)))], ⟨.inr ⟨by kernel_rfl, rfl⟩, trivial⟩, .inl ⟨rfl, PO_move rfl rfl⟩⟩,
                    ⟨[(173, .lit (.int .i64 ((j : Nat) : Int)))], ⟨.inl ⟨12, by kernel_rfl, rfl, rfl⟩, trivial⟩, .inl ⟨rfl, PO_build rfl z83 pl83 rfl rfl⟩⟩,
                    ⟨[(174, .agg (eEdg (⟨((j : Nat) : Int), false⟩ : Edg)))], ⟨.inl ⟨13, by kernel_rfl, rfl, rfl⟩, trivial⟩, .inl ⟨rfl, PO_buildSlice (n := 1) (S := 2) (rs := eEdg (⟨((j : Nat) : Int), false⟩ : Edg) ++ []) rfl un81 ty83 z83 rfl rfl rfl (by decide) rfl (by decide)⟩⟩,
                    trivial⟩) ⟨.inr ⟨by kernel_rfl, rfl⟩, .inr ⟨by kernel_rfl, rfl⟩, .inr ⟨by kernel_rfl, rfl⟩, .inr ⟨by kernel_rfl, rfl⟩, .inr ⟨by kernel_rfl, rfl⟩, .inr ⟨by kernel_rfl, rfl⟩, .inr ⟨by kernel_rfl, rfl⟩, .inr ⟨by kernel_rfl, rfl⟩, .inr ⟨by kernel_rfl, rfl⟩, .inr ⟨by kernel_rfl, rfl⟩, .inr ⟨by kernel_rfl, rfl⟩, .inr ⟨by kernel_rfl, rfl⟩, .inr ⟨by kernel_rfl, rfl⟩, .inl ⟨0, by decide, rfl, rfl⟩, .inl ⟨1, by decide, rfl, rfl⟩, .inl ⟨2, by decide, rfl, rfl⟩, .inl ⟨3, by decide, rfl, rfl⟩, .inl ⟨4, by decide, rfl, rfl⟩, .inl ⟨5, by decide, rfl, rfl⟩, .inl ⟨6, by decide, rfl, rfl⟩, .inl ⟨7, by decide, rfl, rfl⟩, .inl ⟨8, by decide, rfl, rfl⟩, .inl ⟨9, by decide, rfl, rfl⟩, .inl ⟨10, by decide, rfl, rfl⟩, .inl ⟨11, by decide, rfl, rfl⟩, .inl ⟨12, by decide, rfl, rfl⟩, .inl ⟨13, by decide, rfl, rfl⟩, .inl ⟨14, by decide, rfl, rfl⟩, trivial⟩ ?_
                  rintro _ hq ⟨own2, rfl, hT, hleq, hsame⟩
                  refine AL_p rfl rfl rfl (v := .ptr bo fr) (PO_ixj rfl un60 ty81 rfl rfl (by omega)) ?_
                  refine AL_storeC (b := bo) (off := fr) (cs := fo4.map (Gs.cell eEdg)) (vs := [.sl own2 2 ((p.l ++ [(⟨((j : Nat) : Int), false⟩ : Edg)]).map eEdg)]) (v := .sl own2 2 ((p.l ++ [(⟨((j : Nat) : Int), false⟩ : Edg)]).map eEdg)) rfl rfl rfl rfl ty81 rfl rfl (hsame.row hfoD.row) rfl rfl (by rw [List.length_map]; omega) ?_
                  have hfoE := hfoD.app (acc := p.l ++ [(⟨((j : Nat) : Int), false⟩ : Edg)]) (by omega) hsame hT
                  have hleE := Heap.le_upd hleq hbo (some (.row (setCells (fo4.map (Gs.cell eEdg)) fr [.sl own2 2 ((p.l ++ [(⟨((j : Nat) : Int), false⟩ : Edg)]).map eEdg)])))
                  have hrwE := (Heap.upd_other hq hgo (some (.row (setCells (fo4.map (Gs.cell eEdg)) fr [.sl own2 2 ((p.l ++ [(⟨((j : Nat) : Int), false⟩ : Edg)]).map eEdg)])))).trans (hsame.row hrwD)
                  have hmpE := (Heap.upd_other hq hmo (some (.row (setCells (fo4.map (Gs.cell eEdg)) fr [.sl own2 2 ((p.l ++ [(⟨((j : Nat) : Int), false⟩ : Edg)]).map eEdg)])))).trans (hsame.map hmpD)
                  generalize hq.upd bo (some (.row (setCells (fo4.map (Gs.cell eEdg)) fr [.sl own2 2 ((p.l ++ [(⟨((j : Nat) : Int), false⟩ : Edg)]).map eEdg)]))) = hp5 at hfoE hleE hrwE hmpE ⊢
                  have hlnE : (fo4.set fr ⟨own2, 2, p.l ++ [(⟨((j : Nat) : Int), false⟩ : Edg)]⟩).length = (predF l []).length := by rw [List.length_set]; exact hlnD
                  have hbd5 : ∀ p_ ∈ fo4.set fr ⟨own2, 2, p.l ++ [(⟨((j : Nat) : Int), false⟩ : Edg)]⟩, p_.l.length ≤ 1048576 * (c + k) + j + 1 := fun p_ hp => by
                    rcases List.mem_or_eq_of_mem_set hp with hp | rfl
                    · have := hbd4 p_ hp; omega
                    · simp only [List.length_append, List.length_singleton]; omega
                  have hS5 : outF (predF l []) l (List.replicate (predF l []).length []) = outF (predF l []) (l.drop (i + 1)) (addE ((fo4.set fr ⟨own2, 2, p.l ++ [(⟨((j : Nat) : Int), false⟩ : Edg)]⟩).map Gs.l) fr ((((List.range (predF l []).length).drop (j + 1)).map (fun (k : Nat) => (⟨k, false⟩ : Edg))) ++ edgesL (predF l []) (r.body.drop (k + 1)))) := by
                    rw [List.map_set]
                    have hge : (fo4.map Gs.l).getD fr [] = p.l := by rw [List.getD_eq_getElem?_getD, List.getElem?_map, hp_]; rfl
                    rw [hS4, addE_cons (by rw [List.length_map]; omega), hge]
                  generalize fo4.set fr ⟨own2, 2, p.l ++ [(⟨((j : Nat) : Int), false⟩ : Edg)]⟩ = fo5 at hfoE hlnE hbd5 hS5
                  refine AL_nil ?_
                  refine ⟨_, f1 (by first | omega | (simp_all <;> omega)), ?_⟩
                  exact ⟨(j + 1, fo5, hp5), ⟨by omega, hS5, fun p hp => by have := hbd5 p hp; omega, hleE, hrwE, hmpE, hfoE, hlnE⟩, by simp only []; omega, ⟨rfl, ⟨rfl, rfl, rfl, rfl, rfl, rfl, rfl, rfl, rfl, rfl, rfl, trivial⟩, rfl, rfl, rfl⟩⟩
                · skip
                  rw [drop_end (l := List.range (predF l []).length) (i := j) (by rw [List.length_range]; omega), List.map_nil, List.nil_append] at hS4
                  exact ⟨(fo4, hp4), ⟨hS4, fun p hp => by have := hbd4 p hp; omega, hleD, hrwD, hmpD, hfoD, hlnD⟩, ⟨rfl, ⟨rfl, rfl, rfl, rfl, rfl, rfl, rfl, rfl, rfl, trivial⟩, rfl, rfl, rfl⟩⟩
              · skip
                rw [if_neg hc25] at hS2
                refine ⟨⟨hmixed, by kernel_rfl⟩, F62_1, T59, _, _, ⟨hrwB, rfl⟩, F41_1, T25, (.tup [.lit (.int .i64 (lookI x.pat.b.term (predF l []))), .lit (.bool (lookB x.pat.b.term (predF l [])))]), PO_lookT rfl rfl hmpB rfl, fun hc22 => ?_, fun hc22 => ?_⟩
                · skip
                  rw [if_pos hc22, List.cons_append, List.nil_append] at hS2
                  obtain ⟨p, hp_, -, hpm⟩ := drop_at (l := fo2) (i := fr) (by omega)
                  have hpl := hbd2 p hpm
                  refine AW_draw1 18 [.ptr bg 0, .ptr bg 0, .ptr bg (0 + 2), .ms bo 0 1 ((predF l []).length) ((predF l []).length), .lit (.int .i64 ((fr : Nat) : Int)), .ptr bg 0, .ptr bg 0, .ptr bg (0 + 2), .ms bo 0 1 ((predF l []).length) ((predF l []).length), .lit (.int .i64 ((fr : Nat) : Int)), .ptr bo fr, .sl p.own p.S (p.l.map eEdg), .lit (.int .i64 (lookI x.pat.b.term (predF l []))), .ip (List.drop 0 (eLit x)), .lit (.int .i64 x.kind), .lit (.bool (decide ((x.kind : Int) = 2))), .agg (eEdg (⟨(lookI x.pat.b.term (predF l [])), decide ((x.kind : Int) = 2)⟩ : Edg)), .sl .full 2 ([(⟨(lookI x.pat.b.term (predF l [])), decide ((x.kind : Int) = 2)⟩ : Edg)].map eEdg)] [(102, .lit (.int .i64 ((k : Nat) : Int))), (81, .lit (.int .i64 ((i : Nat) : Int))), (2, .lit (.pointer none)), (3, .ptr bg 0), (79, .sl .any 13 (l.map eRule)), (80, .lit (.int .i64 (l.length : Int))), (11, .lit (.int .i64 ((fr : Nat) : Int))), (100, .sl .any 21 (r.body.map eLit)), (101, .lit (.int .i64 (r.body.length : Int))), (103, .lit (.bool (decide ((((k : Nat) : Int) : Int) < (r.body.length : Int))))), (13, .ip (eLit x)), (14, .ip (eSlot x.pat.b)), (140, .lit (.bool ((decide ((x.kind : Int) ≠ 1)) && (decide ((x.kind : Int) ≠ 2))))), (149, .lit (.bool (decide (x.pat.b.var ≠ ⟨#[]⟩)))), (16, .lit (.int .i64 (lookI x.pat.b.term (predF l [])))), (17, .lit (.bool (lookB x.pat.b.term (predF l [])))), (119, .lit (.bool (lookB x.pat.b.term (predF l [])))), (120, .ptr bg 0), (121, .ptr bg 0), (122, .ptr bg (0 + 2)), (123, .ms bo 0 1 ((predF l []).length) ((predF l []).length)), (124, .lit (.int .i64 ((fr : Nat) : Int))), (125, .ptr bg 0), (126, .ptr bg 0), (127, .ptr bg (0 + 2)), (128, .ms bo 0 1 ((predF l []).length) ((predF l []).length)), (129, .lit (.int .i64 ((fr : Nat) : Int))), (130, .ptr bo fr), (131, .sl p.own p.S (p.l.map eEdg)), (132, .lit (.int .i64 (lookI x.pat.b.term (predF l [])))), (133, .ip (List.drop 0 (eLit x))), (134, .lit (.int .i64 x.kind)), (135, .lit (.bool (decide ((x.kind : Int) = 2)))), (136, .agg (eEdg (⟨(lookI x.pat.b.term (predF l [])), decide ((x.kind : Int) = 2)⟩ : Edg))), (137, .sl .full 2 ([(⟨(lookI x.pat.b.term (predF l [])), decide ((x.kind : Int) = 2)⟩ : Edg)].map eEdg))] (fun hh => hh bg = (some (.row [q.cell eTerm, .mp bm, .ms bo 0 1 (predF l []).length (predF l []).length])) ∧ hh bo = some (.row (fo2.map (Gs.cell eEdg)))) _ (tmx := [(131, .sl p.own p.S (p.l.map eEdg)), (137, .sl .full 2 ([(⟨(lookI x.pat.b.term (predF l [])), decide ((x.kind : Int) = 2)⟩ : Edg)].map eEdg))]) rfl hmixed (by kernel_rfl) rfl rfl rfl rfl rfl ⟨hrwB, hfoB.row⟩ ⟨.inl ⟨11, by kernel_rfl, rfl, rfl⟩, .inl ⟨17, by kernel_rfl, rfl, rfl⟩, trivial⟩ (MO_appT (f := eEdg) (acc := p.l) (ys := [(⟨lookI x.pat.b.term (predF l []), decide (x.kind = 2)⟩ : Edg)]) (os := fo2.map Gs.ow) (i := fr) rfl un81 un81 ty83 z83 rfl by83 rfl rfl (hfoB.sz p hpm) (by simp) hfoB.toks (by rw [List.getElem?_map, hp_]; rfl) hleB (by simp only [List.length_singleton]; omega) (by simp only [List.length_singleton]; omega)) (fun _ _ ⟨_, _, _, _, hs⟩ => ⟨hs.row hrwB, hs.row hfoB.row⟩) rfl (by kernel_rfl) (fun hh hK => ⟨
                    ⟨[(3, .ptr bg 0)], ⟨.inr ⟨by kernel_rfl, rfl⟩, trivial⟩, .inl ⟨rfl, PO_move rfl rfl⟩⟩,
                    ⟨[(120, .ptr bg 0)], ⟨.inl ⟨0, by kernel_rfl, rfl, rfl⟩, trivial⟩, .inl ⟨rfl, PO_nilCheck_ptr rfl rfl⟩⟩,
                    ⟨[(121, .ptr bg 0)], ⟨.inl ⟨1, by kernel_rfl, rfl, rfl⟩, trivial⟩, .inl ⟨rfl, PO_fieldAddr_row rfl f62_2 rfl⟩⟩,
                    ⟨[(122, .ptr bg (0 + 2))], ⟨.inl ⟨2, by kernel_rfl, rfl, rfl⟩, trivial⟩, .inl ⟨rfl, PO_load_row rfl ty60 rfl hK.1 rfl⟩⟩,
                    ⟨[(11, .lit (.int .i64 ((fr : Nat) : Int)))], ⟨.inr ⟨by kernel_rfl, rfl⟩, trivial⟩, .inl ⟨rfl, PO_move rfl rfl⟩⟩,
                    ⟨[(3, .ptr bg 0)], ⟨.inr ⟨by kernel_rfl, rfl⟩, trivial⟩, .inl ⟨rfl, PO_move rfl rfl⟩⟩,
                    ⟨[(125, .ptr bg 0)], ⟨.inl ⟨5, by kernel_rfl, rfl, rfl⟩, trivial⟩, .inl ⟨rfl, PO_nilCheck_ptr rfl rfl⟩⟩,
                    ⟨[(126, .ptr bg 0)], ⟨.inl ⟨6, by kernel_rfl, rfl, rfl⟩, trivial⟩, .inl ⟨rfl, PO_fieldAddr_row rfl f62_2 rfl⟩⟩,
                    ⟨[(127, .ptr bg (0 + 2))], ⟨.inl ⟨7, by kernel_rfl, rfl, rfl⟩, trivial⟩, .inl ⟨rfl, PO_load_row rfl ty60 rfl hK.1 rfl⟩⟩,
                    ⟨[(11, .lit (.int .i64 ((fr : Nat) : Int)))], ⟨.inr ⟨by kernel_rfl, rfl⟩, trivial⟩, .inl ⟨rfl, PO_move rfl rfl⟩⟩,
                    ⟨[(128, .ms bo 0 1 ((predF l []).length) ((predF l []).length)), (129, .lit (.int .i64 ((fr : Nat) : Int)))], ⟨.inl ⟨8, by kernel_rfl, rfl, rfl⟩, .inl ⟨9, by kernel_rfl, rfl, rfl⟩, trivial⟩, .inl ⟨rfl, PO_ixj rfl un60 ty81 rfl rfl (by omega)⟩⟩,
                    ⟨[(130, .ptr bo fr)], ⟨.inl ⟨10, by kernel_rfl, rfl, rfl⟩, trivial⟩, .inl ⟨rfl, PO_load_row rfl ty81 rfl hK.2 (gs_load hp_ rfl)⟩⟩,
                    ⟨[(16, .lit (.int .i64 (lookI x.pat.b.term (predF l []))))], ⟨.inr ⟨by kernel_rfl, rfl⟩, trivial⟩, .inl ⟨rfl, PO_move rfl rfl⟩⟩,
                    ⟨[(13, .ip (eLit x))], ⟨.inr ⟨by kernel_rfl, rfl⟩, trivial⟩, .inl ⟨rfl, PO_fieldAddr rfl f68_0 rfl⟩⟩,
                    ⟨[(133, .ip (List.drop 0 (eLit x)))], ⟨.inl ⟨13, by kernel_rfl, rfl, rfl⟩, trivial⟩, .inl ⟨rfl, PO_load rfl ty66 rfl rfl⟩⟩,
                    ⟨[(134, .lit (.int .i64 x.kind))], ⟨.inl ⟨14, by kernel_rfl, rfl, rfl⟩, trivial⟩, .inl ⟨rfl, PO_int rfl rfl rfl rfl trivial⟩⟩,
                    ⟨[(132, .lit (.int .i64 (lookI x.pat.b.term (predF l [])))), (135, .lit (.bool (decide ((x.kind : Int) = 2))))], ⟨.inl ⟨12, by kernel_rfl, rfl, rfl⟩, .inl ⟨15, by kernel_rfl, rfl, rfl⟩, trivial⟩, .inl ⟨rfl, PO_build rfl z83 pl83 rfl rfl⟩⟩,
                    ⟨[(136, .agg (eEdg (⟨(lookI x.pat.b.term (predF l [])), decide ((x.kind : Int) = 2)⟩ : Edg)))], ⟨.inl ⟨16, by kernel_rfl, rfl, rfl⟩, trivial⟩, .inl ⟨rfl, PO_buildSlice (n := 1) (S := 2) (rs := eEdg (⟨(lookI x.pat.b.term (predF l [])), decide ((x.kind : Int) = 2)⟩ : Edg) ++ []) rfl un81 ty83 z83 rfl rfl rfl (by decide) rfl (by decide)⟩⟩,
                    trivial⟩) ⟨.inr ⟨by kernel_rfl, rfl⟩, .inr ⟨by kernel_rfl, rfl⟩, .inr ⟨by kernel_rfl, rfl⟩, .inr ⟨by kernel_rfl, rfl⟩, .inr ⟨by kernel_rfl, rfl⟩, .inr ⟨by kernel_rfl, rfl⟩, .inr ⟨by kernel_rfl, rfl⟩, .inr ⟨by kernel_rfl, rfl⟩, .inr ⟨by kernel_rfl, rfl⟩, .inr ⟨by kernel_rfl, rfl⟩, .inr ⟨by kernel_rfl, rfl⟩, .inr ⟨by kernel_rfl, rfl⟩, .inr ⟨by kernel_rfl, rfl⟩, .inr ⟨by kernel_rfl, rfl⟩, .inr ⟨by kernel_rfl, rfl⟩, .inr ⟨by kernel_rfl, rfl⟩, .inr ⟨by kernel_rfl, rfl⟩, .inl ⟨0, by decide, rfl, rfl⟩, .inl ⟨1, by decide, rfl, rfl⟩, .inl ⟨2, by decide, rfl, rfl⟩, .inl ⟨3, by decide, rfl, rfl⟩, .inl ⟨4, by decide, rfl, rfl⟩, .inl ⟨5, by decide, rfl, rfl⟩, .inl ⟨6, by decide, rfl, rfl⟩, .inl ⟨7, by decide, rfl, rfl⟩, .inl ⟨8, by decide, rfl, rfl⟩, .inl ⟨9, by decide, rfl, rfl⟩, .inl ⟨10, by decide, rfl, rfl⟩, .inl ⟨11, by decide, rfl, rfl⟩, .inl ⟨12, by decide, rfl, rfl⟩, .inl ⟨13, by decide, rfl, rfl⟩, .inl ⟨14, by decide, rfl, rfl⟩, .inl ⟨15, by decide, rfl, rfl⟩, .inl ⟨16, by decide, rfl, rfl⟩, .inl ⟨17, by decide, rfl, rfl⟩, trivial⟩ ?_
                  rintro _ hq ⟨own2, rfl, hT, hleq, hsame⟩
                  refine AL_p rfl rfl rfl (v := .ptr bo fr) (PO_ixj rfl un60 ty81 rfl rfl (by omega)) ?_
                  refine AL_storeC (b := bo) (off := fr) (cs := fo2.map (Gs.cell eEdg)) (vs := [.sl own2 2 ((p.l ++ [(⟨lookI x.pat.b.term (predF l []), decide (x.kind = 2)⟩ : Edg)]).map eEdg)]) (v := .sl own2 2 ((p.l ++ [(⟨lookI x.pat.b.term (predF l []), decide (x.kind = 2)⟩ : Edg)]).map eEdg)) rfl rfl rfl rfl ty81 rfl rfl (hsame.row hfoB.row) rfl rfl (by rw [List.length_map]; omega) ?_
                  have hfoE := hfoB.app (acc := p.l ++ [(⟨lookI x.pat.b.term (predF l []), decide (x.kind = 2)⟩ : Edg)]) (by omega) hsame hT
                  have hleE := Heap.le_upd hleq hbo (some (.row (setCells (fo2.map (Gs.cell eEdg)) fr [.sl own2 2 ((p.l ++ [(⟨lookI x.pat.b.term (predF l []), decide (x.kind = 2)⟩ : Edg)]).map eEdg)])))
                  have hrwE := (Heap.upd_other hq hgo (some (.row (setCells (fo2.map (Gs.cell eEdg)) fr [.sl own2 2 ((p.l ++ [(⟨lookI x.pat.b.term (predF l []), decide (x.kind = 2)⟩ : Edg)]).map eEdg)])))).trans (hsame.row hrwB)
                  have hmpE := (Heap.upd_other hq hmo (some (.row (setCells (fo2.map (Gs.cell eEdg)) fr [.sl own2 2 ((p.l ++ [(⟨lookI x.pat.b.term (predF l []), decide (x.kind = 2)⟩ : Edg)]).map eEdg)])))).trans (hsame.map hmpB)
                  generalize hq.upd bo (some (.row (setCells (fo2.map (Gs.cell eEdg)) fr [.sl own2 2 ((p.l ++ [(⟨lookI x.pat.b.term (predF l []), decide (x.kind = 2)⟩ : Edg)]).map eEdg)]))) = hp5 at hfoE hleE hrwE hmpE ⊢
                  have hlnE : (fo2.set fr ⟨own2, 2, p.l ++ [(⟨lookI x.pat.b.term (predF l []), decide (x.kind = 2)⟩ : Edg)]⟩).length = (predF l []).length := by rw [List.length_set]; exact hlnB
                  have hbd5 : ∀ p_ ∈ fo2.set fr ⟨own2, 2, p.l ++ [(⟨lookI x.pat.b.term (predF l []), decide (x.kind = 2)⟩ : Edg)]⟩, p_.l.length ≤ 1048576 * (c + k) + 1 := fun p_ hp => by
                    rcases List.mem_or_eq_of_mem_set hp with hp | rfl
                    · have := hbd2 p_ hp; omega
                    · simp only [List.length_append, List.length_singleton]; omega
                  have hS5 : outF (predF l []) l (List.replicate (predF l []).length []) = outF (predF l []) (l.drop (i + 1)) (addE ((fo2.set fr ⟨own2, 2, p.l ++ [(⟨lookI x.pat.b.term (predF l []), decide (x.kind = 2)⟩ : Edg)]⟩).map Gs.l) fr (edgesL (predF l []) (r.body.drop (k + 1)))) := by
                    rw [List.map_set]
                    have hge : (fo2.map Gs.l).getD fr [] = p.l := by rw [List.getD_eq_getElem?_getD, List.getElem?_map, hp_]; rfl
                    rw [hS2, addE_cons (by rw [List.length_map]; omega), hge]
                  generalize fo2.set fr ⟨own2, 2, p.l ++ [(⟨lookI x.pat.b.term (predF l []), decide (x.kind = 2)⟩ : Edg)]⟩ = fo5 at hfoE hlnE hbd5 hS5
                  refine AL_nil ?_
                  exact ⟨(fo5, hp5), ⟨hS5, fun p hp => by have := hbd5 p hp; omega, hleE, hrwE, hmpE, hfoE, hlnE⟩, ⟨rfl, ⟨rfl, rfl, rfl, rfl, rfl, rfl, rfl, rfl, rfl, trivial⟩, rfl, rfl, rfl⟩⟩
                · skip
                  rw [if_neg (by rw [hc22]; simp), List.nil_append] at hS2
                  exact ⟨(fo2, hp2), ⟨hS2, fun p hp => by have := hbd2 p hp; omega, hleB, hrwB, hmpB, hfoB, hlnB⟩, ⟨rfl, ⟨rfl, rfl, rfl, rfl, rfl, rfl, rfl, rfl, rfl, trivial⟩, rfl, rfl, rfl⟩⟩
          · rintro ⟨fo3, hp3⟩ ⟨hS3, hbd3, hleC, hrwC, hmpC, hfoC, hlnC⟩
            refine AW_xr [] [] ?_
            refine ⟨_, f1 (by first | omega | (simp_all <;> omega)), ?_⟩
            exact ⟨(k + 1, fo3, hp3), ⟨by omega, hS3, fun p hp => by have := hbd3 p hp; omega, hleC, hrwC, hmpC, hfoC, hlnC⟩, by simp only []; omega, ⟨rfl, ⟨rfl, rfl, rfl, rfl, rfl, rfl, rfl, rfl, rfl, trivial⟩, rfl, rfl, rfl⟩⟩
        · skip
          rw [drop_end (l := r.body) (i := k) (by omega), edgesL, addE_nil (by rw [List.length_map]; omega)] at hS2
          refine ⟨_, f1 (by first | omega | (simp_all <;> omega)), ?_⟩
          exact ⟨(i + 1, c + r.body.length, fo2, hp2), ⟨by omega, by omega, hS2, fun p hp => by have := hbd2 p hp; omega, hleB, hrwB, hmpB, hfoB, hlnB⟩, by simp only []; omega, ⟨rfl, ⟨rfl, rfl, rfl, rfl, rfl, trivial⟩, rfl, rfl, rfl⟩⟩
    · skip
      rw [drop_end (l := l) (i := i) (by omega), outF] at hS
      refine AW_graph (k := 2) (S1 := 3) (S := 2) rfl hrwA hmpA hfoA.row hqS hfoA.sz hlnA hgo ?_
      refine AW_ret ?_
      exact ret_le2 (.inl rfl) rfl (by rw [← hnm, eGraph, seeG, hS]; simp only [Graph.at_, outF, List.map_map]; rfl) (Heap.le_upd (Heap.le_upd (Heap.le_upd hleA hbm _) hbo _) hbg _)
end Go.AM.Tryd
end
section
set_option linter.unusedVariables false
set_option linter.unusedSimpArgs false
namespace Go.AM.Tryd
open Go Go.AM Go.AM.D
theorem edgeL_ok {names : List Term} {x : Lt} (hn : names.length ≤ 1048576) : (edgeL names x).length ≤ 1048576 ∧ ∀ e ∈ edgeL names x, 0 ≤ e.to ∧ e.to < names.length := by
  rw [edgeL]
  split
  · simp
  · split
    · refine ⟨by simpa using hn, fun e he => ?_⟩
      simp only [List.mem_map, List.mem_range] at he
      obtain ⟨k, hk, rfl⟩ := he
      simp only []
      omega
    · split
      · rename_i h
        refine ⟨by simp, fun e he => ?_⟩
        rw [List.mem_singleton] at he
        subst he
        simp only [lookB, decide_eq_true_eq] at h
        have := lookI_lt (t := x.pat.b.term) (names := names) (by omega)
        simp only []
        omega
      · simp
theorem edgesL_ok {names : List Term} (hn : names.length ≤ 1048576) : ∀ b : List Lt, (edgesL names b).length ≤ 1048576 * b.length ∧ ∀ e ∈ edgesL names b, 0 ≤ e.to ∧ e.to < names.length
  | [] => by simp [edgesL]
  | x :: b => by
    have h1 := edgeL_ok (x := x) hn
    have h2 := edgesL_ok hn b
    refine ⟨by simp only [edgesL, List.length_append, List.length_cons]; omega, fun e he => ?_⟩
    rw [edgesL, List.mem_append] at he
    exact he.elim (h1.2 e) (h2.2 e)
theorem outF_ok {names : List Term} (hn : names.length ≤ 1048576) : ∀ (l : List Rule) (o : List (List Edg)) (B : Nat), (∀ es ∈ o, es.length ≤ B ∧ ∀ e ∈ es, 0 ≤ e.to ∧ e.to < names.length) → (outF names l o).length = o.length ∧ ∀ es ∈ outF names l o, es.length ≤ B + 1048576 * bods l ∧ ∀ e ∈ es, 0 ≤ e.to ∧ e.to < names.length
  | [], o, B, h => ⟨rfl, fun es he => ⟨by have := (h es he).1; simp only [bods]; omega, (h es he).2⟩⟩
  | r :: l, o, B, h => by
    rw [outF]
    split
    · have := outF_ok hn l o B h
      refine ⟨this.1, fun es he => ⟨?_, (this.2 es he).2⟩⟩
      have := (this.2 es he).1
      simp only [bods]; omega
    · have he := edgesL_ok hn r.body
      have := outF_ok hn l (addE o (lookI r.head.b.term names).toNat (edgesL names r.body)) (B + 1048576 * r.body.length) (fun es hes => by
        rw [addE] at hes
        rcases List.mem_or_eq_of_mem_set hes with hes | rfl
        · have := h es hes; exact ⟨by omega, this.2⟩
        · have hg : (o.getD (lookI r.head.b.term names).toNat []).length ≤ B ∧ ∀ e ∈ o.getD (lookI r.head.b.term names).toNat [], 0 ≤ e.to ∧ e.to < names.length := by
            rw [List.getD_eq_getElem?_getD]
            cases hq : o[(lookI r.head.b.term names).toNat]? with
            | none => simp
            | some es => exact h es (List.mem_of_getElem? hq)
          refine ⟨by rw [List.length_append]; omega, fun e hm => ?_⟩
          exact (List.mem_append.1 hm).elim (hg.2 e) (he.2 e))
      refine ⟨by rw [this.1, addE_len], fun es hes => ⟨?_, (this.2 es hes).2⟩⟩
      have := (this.2 es hes).1
      simp only [bods]; omega
theorem okG_see {l : List Rule} (hl : l.length ≤ 1048576) (hb : bods l ≤ 1048576) : okG (seeG l) := by
  have h1 := predF_len l []
  simp only [List.length_nil, Nat.zero_add] at h1
  have h2 := outF_ok (names := predF l []) (by omega) l (List.replicate (predF l []).length []) 0 (fun es he => by rw [List.eq_of_mem_replicate he]; simp)
  refine ⟨by simp only [seeG]; omega, by simp only [seeG]; rw [h2.1, List.length_replicate], fun es he => ?_⟩
  have := h2.2 es he
  exact ⟨by omega, this.2⟩
noncomputable def findN (l : List Rule) : List Int × Int :=
  if progU l ≠ 0 then ([], progU l) else if negF l = false then (List.replicate (predF l []).length 1, 0) else ofV (numV (clP (seeG l).out) (predF l []).length)
noncomputable def gptr (l : List Rule) : AV := if (findN l).2 = 0 then .ip (eGraph (seeG l)) else .lit (.pointer none)
theorem numG_see {l : List Rule} : numG (seeG l) = ofB (numV (clP (seeG l).out) (predF l []).length) := rfl
end Go.AM.Tryd
end
section
set_option maxRecDepth 100000
set_option maxHeartbeats 4000000
set_option linter.unusedVariables false
set_option linter.unusedSimpArgs false
namespace Go.AM.Tryd
open Go Go.AM Go.AM.D
theorem find_ (l : List Rule) (hl : okRs l) (hbods : bods l ≤ 1048576) : PFn PR (.fn (.func 26) [] []) [.sl .any 13 (l.map eRule)] (.tup [(gptr l), .sl .any 1 (((findN l).1).map eI64), .lit (.int .i64 ((findN l).2))]) := by
  have hl1 := hl.1
  have hok := okG_see hl1 hbods
  have hPl := predF_len l []
  simp only [List.length_nil, Nat.zero_add] at hPl
  refine PFn_of Go.Proofs.Tryz.func26 rfl (by rfl) Go.Proofs.Tryz.ntmps26 rfl (by simp) fun h => ?_
  refine AW_x [] [(6, 4)] ?_
  refine ⟨1, _, (uprog_ _ (by assumption)), ?_⟩
  refine AL_als rfl rfl rfl rfl rfl rfl al72 rfl rfl rfl rfl rfl ?_
  refine AL_x [] [] 7 ?_
  refine brD (fun hc2 => ?_) (fun hc2 => ?_)
  · skip
    have hw : findN l = ([], progU l) := by rw [findN, if_pos hc2]
    have hg : gptr l = .lit (.pointer none) := by rw [gptr, hw, if_neg hc2]
    refine ⟨1, ?_⟩
    refine AW_any (k := 3) rfl ?_
    exact AW_ret (ret_le2 (.inl rfl) rfl (by rw [hw, hg]; rfl) (.refl _))
  · skip
    have hw0 : findN l = if negF l = false then (List.replicate (predF l []).length 1, 0) else ofV (numV (clP (seeG l).out) (predF l []).length) := by rw [findN, if_neg hc2]
    refine ⟨_, (see_ _ (by assumption) (by assumption)), _, (neg30_ _ (by assumption)), fun hc5 => ?_, fun hc5 => ?_⟩
    · skip
      rw [if_pos (by simpa using hc5)] at hw0
      have hg : gptr l = .ip (eGraph (seeG l)) := by rw [gptr, hw0, if_pos rfl]
      refine ⟨F62_0, T37, (.lit (.int .i64 (((predF l []).length : Nat) : Int))), PO_lenM rfl un37 rfl, ?_⟩
      refine AL_mkn rfl rfl rfl rfl un32 ty3 z3 by3 rfl rfl (by omega) (by omega) fun b hb => ?_
      refine AL_x [] [] 6 ?_
      refine ⟨L32, ?_⟩
      refine AW_it [] [] [(0, _), (2, _), (3, _), (4, _), (7, _), (8, _), (32, _)] (fun (z : Nat) => [(33, .lit (.int .i64 ((z : Nat) : Int)))]) (fun (z : Nat) => (h.upd b (some (.row (ints (List.replicate z (1 : Int) ++ List.replicate ((predF l []).length - z) 0)))))) (fun (z : Nat) => z ≤ (predF l []).length) (fun (z : Nat) => (predF l []).length - z) (0) ⟨rfl, rfl, rfl, rfl, rfl, rfl, rfl, trivial⟩ ⟨rfl, trivial⟩ (by simp) (by omega) ?_
      intro z hIz
      have hrl : (List.replicate z (1 : Int) ++ List.replicate ((predF l []).length - z) 0).length = (predF l []).length := by simp only [List.length_append, List.length_replicate]; omega
      refine brD (fun hc8 => ?_) (fun hc8 => ?_)
      · skip
        refine ⟨L32, _, ixj (by first | omega | (simp only [List.length_set]; omega)), ?_⟩
        refine AL_stn (ns := (List.replicate z (1 : Int) ++ List.replicate ((predF l []).length - z) 0)) (j := z) (v := 1) rfl rfl rfl ty3 rfl rfl (by first | omega | (simp only [List.length_set]; omega)) ?_
        refine AL_nil ?_
        refine ⟨_, f1 (by first | omega | (simp_all <;> omega)), ?_⟩
        exact ⟨z + 1, by omega, by omega, ⟨rfl, ⟨rfl, rfl, rfl, rfl, rfl, rfl, rfl, rfl, trivial⟩, (by rw [rep_set (by omega)]), rfl, rfl⟩⟩
      · skip
        refine AW_frzn (k := 3) rfl hb (by omega) (by omega) ?_
        exact AW_ret (ret_le2 (.inl rfl) rfl (by rw [hw0, hg, rep_done (by omega)]) (.refl _))
    · skip
      rw [if_neg (by simpa using hc5)] at hw0
      refine ⟨_, (numbers_ _ _ (by assumption)), fun hc14 => ?_, fun hc14 => ?_⟩
      · skip
        have hw : findN l = ([], 6) := by
          rw [hw0]
          rw [numG_see] at hc14
          cases hn : numV (clP (seeG l).out) (predF l []).length with
          | some ns => rw [hn] at hc14; cases hc14
          | none => rfl
        have hg : gptr l = .lit (.pointer none) := by rw [gptr, hw, if_neg (by simp)]
        refine ⟨1, ?_⟩
        refine AW_any (k := 3) rfl ?_
        exact AW_ret (ret_le2 (.inl rfl) rfl (by rw [hw, hg]; rfl) (.refl _))
      · skip
        have hw : findN l = ((numG (seeG l)).1, 0) := by
          rw [hw0]
          rw [numG_see] at hc14 ⊢
          cases hn : numV (clP (seeG l).out) (predF l []).length with
          | some ns => rfl
          | none => rw [hn] at hc14; cases hc14
        have hg : gptr l = .ip (eGraph (seeG l)) := by rw [gptr, hw, if_pos rfl]
        exact AW_ret (ret_le2 (.inl rfl) rfl (by rw [hw, hg]) (.refl _))
end Go.AM.Tryd
end
section
set_option linter.unusedVariables false
set_option linter.unusedSimpArgs false
namespace Go.AM
open Go.RowKit Go.AM.D
def OutV {α : Type} (f : α → List AV) (S : Nat) (hp h0 : Heap) (ov : AV) (ls : List (List α)) : Prop :=
  (∃ S0, ov = .sl .nil S0 [] ∧ ls = []) ∨ ∃ bo cap fo, ov = .ms bo 0 1 ls.length cap ∧ Forest f S hp h0 bo fo ∧ fo.length = cap ∧ h0 bo = none ∧ (fo.take ls.length).map Gs.l = ls ∧ ls.length ≤ cap
theorem OutV.len {α : Type} {f : α → List AV} {S : Nat} {hp h0 : Heap} {ov : AV} {ls : List (List α)} (h : OutV f S hp h0 ov ls) {P : Program} {ρ : Option Nat} {σ : AS} {o : Oper} {x : Operand} {t e : TypeId} (ho : o.op = .call { callee := .builtin .len, args := #[x], argTypes := #[t] }) (ht : P.underlying t = some (.slice e)) (hx : ev σ.tm x = some ov) : PO P ρ o σ (.lit (.int .i64 ls.length)) := by
  rcases h with ⟨S0, rfl, rfl⟩ | ⟨bo, cap, fo, rfl, -⟩
  · exact PO_len ho ht hx
  · exact PO_len_ms ho ht hx
theorem Toks.nil {S : Nat} {hp h0 : Heap} (m : Nat) {os : List (Own × Nat)} (h : Toks S hp h0 os) : Toks S hp h0 (os ++ List.replicate m (.nil, 0)) := by
  refine ⟨fun i o n e => ?_, fun i j b n n' e1 e2 => ?_⟩
  · rcases Nat.lt_or_ge i os.length with c | c
    · rw [List.getElem?_append_left c] at e; exact h.1 i o n e
    · rw [List.getElem?_append_right c, List.getElem?_replicate] at e
      split at e
      · injection e with e; injection e with e1 e2; exact .inl ⟨e1.symm, e2.symm⟩
      · cases e
  · have hlt : ∀ (i n : Nat), (os ++ List.replicate m (Own.nil, 0))[i]? = some (Own.tok b, n) → os[i]? = some (Own.tok b, n) := by
      intro i n e
      rcases Nat.lt_or_ge i os.length with c | c
      · rwa [List.getElem?_append_left c] at e
      · rw [List.getElem?_append_right c, List.getElem?_replicate] at e
        split at e
        · injection e with e; injection e with e1 _; cases e1
        · cases e
    exact h.2 i j b n n' (hlt i n e1) (hlt j n' e2)
theorem Toks.take {S : Nat} {hp h0 : Heap} (m : Nat) {os : List (Own × Nat)} (h : Toks S hp h0 os) : Toks S hp h0 (os.take m) := by
  have hlt : ∀ (i : Nat) (x : Own × Nat), (os.take m)[i]? = some x → os[i]? = some x := by
    intro i x e
    rw [List.getElem?_take] at e
    split at e
    · exact e
    · cases e
  exact ⟨fun i o n e => h.1 i o n (hlt i _ e), fun i j b n n' e1 e2 => h.2 i j b n n' (hlt i _ e1) (hlt j _ e2)⟩
theorem Toks.setNil {S : Nat} {hp h0 : Heap} (k : Nat) {os : List (Own × Nat)} (h : Toks S hp h0 os) : Toks S hp h0 (os.set k (.nil, 0)) := by
  have hlt : ∀ (i : Nat) (o : Own) (n : Nat), (os.set k (Own.nil, 0))[i]? = some (o, n) → (o = .nil ∧ n = 0) ∨ os[i]? = some (o, n) := by
    intro i o n e
    rw [List.getElem?_set] at e
    split at e
    · split at e
      · injection e with e; injection e with e1 e2; exact .inl ⟨e1.symm, e2.symm⟩
      · cases e
    · exact .inr e
  refine ⟨fun i o n e => ?_, fun i j b n n' e1 e2 => ?_⟩
  · rcases hlt i o n e with h1 | h1
    · exact .inl h1
    · exact h.1 i o n h1
  · rcases hlt i _ n e1 with ⟨h1, -⟩ | h1
    · cases h1
    · rcases hlt j _ n' e2 with ⟨h2, -⟩ | h2
      · cases h2
      · exact h.2 i j b n n' h1 h2
section
variable {P : Program} {ρ : Option Nat} {Q : Exit → AS → Prop} {o : Oper} {ops : Array Oper} {l : List Oper} {n d : Nat} {tm : List (Nat × AV)} {h h0 : Heap} {ms : List Nat}
def gnil {α : Type} : Gs α := ⟨.nil, 0, []⟩
theorem azeros_gs {α : Type} (f : α → List AV) (r : Nat) : azeros [.sl .nil 0 []] r = (List.replicate r (gnil (α := α))).map (Gs.cell f) := by
  rw [List.map_replicate]
  induction r with
  | zero => rfl
  | succ m ih => rw [List.replicate_succ, ← ih]; rfl
theorem MO_outs {α : Type} {f : α → List AV} {S bytes : Nat} {ov : AV} {ls : List (List α)} {s x : Operand} {t tx e e' : TypeId} {dd : TypeDesc} (hO : OutV f S h h0 ov ls) (hle : h0.le h) (ho : o.op = .call { callee := .builtin .append, args := #[s, x], argTypes := #[t, tx] })
    (ht : P.underlying t = some (.slice e)) (htx : P.underlying tx = some (.slice e')) (he : TyF P e dd 1) (hz : ZeroF P e [.sl .nil 0 []]) (hb : (P.info? e).map (·.bytes) = some bytes)
    (hse : ev tm s = some ov) (hxe : ev tm x = some (.sl .full 1 [[.sl .nil 0 []]])) (hlim : (ls.length + 1) * bytes ≤ 140737488355328) (h63 : ls.length + 1 ≤ 9223372036854775807) :
    MO P ρ o ⟨n, tm, h, ms, h0⟩ (fun u h' => OutV f S h' h0 u (ls ++ [[]]) ∧ h0.le h') := by
  intro g I a w hs
  rcases hO with ⟨S0, rfl, rfl⟩ | ⟨bo, cap, fo, rfl, hF, hfl, hbo, hls, hlc⟩
  · refine wpIn_oper_mono (MO_append_ms (ρ := ρ) (σ := ⟨n, tm, h, ms, h0⟩) (b := w.heap.size) (k := 0) (cap := 0) (cs := []) ho ht htx he hz rfl hb (.inr ⟨S0, hse, rfl, rfl, rfl, h_new hs⟩) hxe (by simp) (by simpa using hlim) (by simp) g I a w hs) ?_ fun _ _ _ h => h
    rintro a' w' ⟨I', u, v, h', h1, h2, h3, h4, b', cap', rest, hv, hb', hh, hcap, hlen, hrest⟩
    have hb0 : h b' = none := by
      rcases hb' with hb' | rfl
      · exact hb'
      · exact h_new hs
    refine ⟨I', u, v, h', h1, h2, h3, h4, ?_, ?_⟩
    · obtain ⟨r, hr⟩ : ∃ r, rest = (List.replicate r (gnil (α := α))).map (Gs.cell f) := by
        rcases hrest with e | ⟨r, e⟩
        · exact ⟨0, by simpa using e⟩
        · exact ⟨r, by rw [e]; exact azeros_gs f r⟩
      subst hr
      refine .inr ⟨b', cap', gnil :: List.replicate r gnil, hv, ⟨?_, ?_, ?_⟩, ?_, Heap.none_of hle hb0, ?_, by simpa using hcap⟩
      · rw [hh, Heap.upd_same]; rfl
      · have : (gnil (α := α) :: List.replicate r gnil).map Gs.ow = [] ++ List.replicate (r + 1) (.nil, 0) := by
          rw [List.replicate_succ, List.map_cons, List.map_replicate]; rfl
        rw [this]
        exact Toks.nil _ ⟨by simp, by simp⟩
      · intro p hp
        rcases List.mem_cons.1 hp with rfl | hp
        · exact .inr rfl
        · rw [List.eq_of_mem_replicate hp]; exact .inr rfl
      · simp at hlen ⊢; omega
      · simp; rfl
    · rw [hh]
      exact Heap.le_upd (Heap.le_upd hle (Heap.none_of hle (h_new hs)) _) (Heap.none_of hle hb0) _
  · refine wpIn_oper_mono (MO_append_ms (ρ := ρ) (σ := ⟨n, tm, h, ms, h0⟩) (b := bo) (k := ls.length) (cap := cap) (cs := fo.map (Gs.cell f)) ho ht htx he hz rfl hb (.inl ⟨hse, hF.row, by simpa using hfl, hlc⟩) hxe (by simp) (by simpa using hlim) (by simpa using h63) g I a w hs) ?_ fun _ _ _ h => h
    rintro a' w' ⟨I', u, v, h', h1, h2, h3, h4, b', cap', rest, hv, hb', hh, hcap, hlen, hrest⟩
    simp only [List.length_singleton, Nat.mul_one] at hv hcap hlen hh hrest
    have hb0 : h0 b' = none := by
      rcases hb' with hb' | rfl
      · exact Heap.none_of hle hb'
      · exact hbo
    obtain ⟨fr, hfr, hfrt, hfrs⟩ : ∃ fr : List (Gs α), rest = fr.map (Gs.cell f) ∧ (∀ hp, Toks S hp h0 (fo.map Gs.ow) → Toks S hp h0 ((fo.take ls.length ++ gnil :: fr).map Gs.ow)) ∧ ∀ p ∈ fr, p.S = S ∨ p.l = [] := by
      rcases hrest with e | ⟨r, e⟩
      · refine ⟨fo.drop (ls.length + 1), by rw [e, List.map_drop], fun hp hT => ?_, fun p hp => hF.sz p (List.mem_of_mem_drop hp)⟩
        rcases Nat.lt_or_ge ls.length fo.length with c | c
        · have : (fo.take ls.length ++ gnil :: fo.drop (ls.length + 1)).map Gs.ow = (fo.map Gs.ow).set ls.length (.nil, 0) := by
            rw [List.set_eq_take_append_cons_drop, if_pos (by simpa using c), List.map_append, List.map_cons, List.map_take, List.map_drop]; rfl
          rw [this]; exact hT.setNil _
        · rw [List.drop_of_length_le (by omega), List.take_of_length_le c, List.map_append]
          exact Toks.nil 1 hT
      · refine ⟨List.replicate r gnil, by rw [e]; exact azeros_gs f r, fun hp hT => ?_, fun p hp => by rw [List.eq_of_mem_replicate hp]; exact .inr rfl⟩
        have : (fo.take ls.length ++ gnil :: List.replicate r gnil).map Gs.ow = (fo.map Gs.ow).take ls.length ++ List.replicate (r + 1) (.nil, 0) := by
          rw [List.map_append, List.map_take, List.map_cons, List.map_replicate, List.replicate_succ]; rfl
        rw [this]
        exact Toks.nil _ (hT.take _)
    subst hfr
    refine ⟨I', u, v, h', h1, h2, h3, h4, .inr ⟨b', cap', fo.take ls.length ++ gnil :: fr, by rw [hv]; simp, ⟨?_, ?_, ?_⟩, ?_, hb0, ?_, by simpa using hcap⟩, ?_⟩
    · rw [hh, Heap.upd_same]
      simp only [List.map_append, List.map_cons, List.map_take, List.flatten_cons, List.flatten_nil, List.append_nil, List.append_assoc, List.cons_append, List.nil_append]
      rfl
    · refine (hfrt h hF.toks).le fun q m e => ?_
      have q1 : q ≠ bo := fun e2 => by subst e2; rw [hF.row] at e; cases e
      have q2 : q ≠ b' := fun e2 => by
        subst e2
        rcases hb' with hb' | hb'
        · rw [show (AS.h ⟨n, tm, h, ms, h0⟩) q = h q from rfl, e] at hb'; cases hb'
        · exact q1 hb'
      rw [hh, Heap.upd_other _ q2, Heap.upd_other _ q1]; exact e
    · intro p hp
      rcases List.mem_append.1 hp with hp | hp
      · exact hF.sz p (List.mem_of_mem_take hp)
      · rcases List.mem_cons.1 hp with rfl | hp
        · exact .inr rfl
        · exact hfrs p hp
    · simp only [List.length_append, List.length_take, List.length_map, List.length_cons, List.flatten_cons, List.flatten_nil, List.append_nil, List.length_nil] at hlen ⊢; omega
    · have : (fo.take ls.length).length = ls.length := by rw [List.length_take]; omega
      rw [List.length_append, List.length_singleton, List.take_append, this, Nat.add_sub_cancel_left, List.map_append, List.take_take, Nat.min_eq_right (by omega)]
      rw [hls]; rfl
    · rw [hh]
      exact Heap.le_upd (Heap.le_upd hle hbo _) hb0 _
theorem AW_outs {α : Type} {f : α → List AV} {S k : Nat} {ov : AV} {ls : List (List α)} {c : Code} (hk : look tm k = some ov) (hO : OutV f S h h0 ov ls) (hle : h0.le h) (kk : ∀ h', h0.le h' → AW P ρ c Q ⟨n, (k, .sl .any 1 (ls.map fun x => [.sl .any S (x.map f)])) :: tm, h', ms, h0⟩) : AW P ρ c Q ⟨n, tm, h, ms, h0⟩ := by
  rcases hO with ⟨S0, rfl, rfl⟩ | ⟨bo, cap, fo, rfl, hF, hfl, hbo, hls, hlc⟩
  · refine AW_ghost (ghost_weak (u := .sl .any 1 []) hk fun I x hx => ?_) (kk h hle)
    cases hx with
    | slnil => exact .slnil _ _ (.inr rfl)
    | sl _ _ _ ad cap u ho' _ _ _ _ => exact ho'.2.2.elim
  · refine AW_ghost (ghost_rowW (ds' := fo.map fun p => .sl .any S (p.l.map f)) hF.row (by simp) fun i x y hx hy => ?_) ?_
    · rw [List.getElem?_map, Option.map_eq_some_iff] at hx hy
      obtain ⟨p, hp, rfl⟩ := hx
      obtain ⟨p', hp', rfl⟩ := hy
      rw [hp] at hp'; injection hp' with hp'; subst hp'
      exact ⟨fun _ => rfl, fun I v hv => VR.gs (hF.sz p (List.mem_of_getElem? hp)) hv⟩
    refine AW_ghost (ghost_ms (b := bo) (es := ls.map fun x => [.sl .any S (x.map f)]) hk (Heap.upd_same _ _ _) (by simp) (by simp) (fun i e j a h1 h2 => ?_) hlc) (kk _ (Heap.le_upd (Heap.le_upd hle hbo _) hbo _))
    rw [List.getElem?_map, Option.map_eq_some_iff] at h1
    obtain ⟨x, hx, rfl⟩ := h1
    have hj : j = 0 := by have := (List.getElem?_eq_some_iff.1 h2).1; simpa using this
    subst hj
    injection h2 with h2
    subst h2
    rw [← hls, List.getElem?_map, Option.map_eq_some_iff] at hx
    obtain ⟨p, hp, rfl⟩ := hx
    rw [List.getElem?_take] at hp
    split at hp
    · simp [hp]
    · cases hp
end
end Go.AM
end
section
set_option linter.unusedVariables false
set_option linter.unusedSimpArgs false
namespace Go.AM
open Go.RowKit Go.AM.D
theorem OutV.ms {α : Type} {f : α → List AV} {S : Nat} {hp h0 : Heap} {ov : AV} {ls : List (List α)} (h : OutV f S hp h0 ov ls) (hn : 0 < ls.length) : ∃ bo cap fo, ov = .ms bo 0 1 ls.length cap ∧ Forest f S hp h0 bo fo ∧ fo.length = cap ∧ h0 bo = none ∧ (fo.take ls.length).map Gs.l = ls ∧ ls.length ≤ cap := by
  rcases h with ⟨S0, rfl, rfl⟩ | h
  · simp at hn
  · exact h
end Go.AM
namespace Go.AM.Tryd
open Go Go.AM Go.AM.D
noncomputable def numberU (l : List Rule) (t : Term) : Int × Int := if (findN l).2 ≠ 0 then (0, (findN l).2) else if lookB t (predF l []) = true then ((findN l).1.getD (lookI t (predF l [])).toNat 0, 0) else (0, 0)
noncomputable def stU (l : List Rule) (r : Rule) : Int := if r.head.b.var = ⟨#[]⟩ then (findN l).1.getD (lookI r.head.b.term (predF l [])).toNat 0 else 1
def padL (ls : List (List Int)) (s : Nat) : List (List Int) := ls ++ List.replicate (s - ls.length) []
def putL (ls : List (List Int)) (s : Nat) (i : Int) : List (List Int) := (padL ls s).set (s - 1) ((padL ls s).getD (s - 1) [] ++ [i])
def laysF (v : Rule → Int) : Int → List Rule → List (List Int) → List (List Int)
  | _, [], o => o
  | i, r :: l, o => laysF v (i + 1) l (putL o (v r).toNat i)
noncomputable def layU (l : List Rule) : List (List Int) × Int := if (findN l).2 ≠ 0 then ([], (findN l).2) else (laysF (stU l) 0 l [], 0)
theorem findN_vals {l : List Rule} (h : (findN l).2 = 0) : Lo (predF l []).length (findN l).1 ∧ Hi (predF l []).length (findN l).1 := by
  rw [findN] at h ⊢
  split at h
  · rename_i h1; exact absurd h h1
  · rename_i h1
    rw [if_neg h1]
    split at h
    · rename_i h2; rw [if_pos h2]; exact ⟨rep_lo _, rep_hi _⟩
    · rename_i h2
      rw [if_neg h2]
      cases hn : numV (clP (seeG l).out) (predF l []).length with
      | none => rw [hn] at h; simp [ofV] at h
      | some ns => have := numV_spec hn; exact ⟨this.lo, this.hi⟩
theorem look_of {l : List Rule} {t : Term} (h : lookB t (predF l []) = true) : 0 ≤ lookI t (predF l []) ∧ (lookI t (predF l [])).toNat < (predF l []).length := by
  simp only [lookB, decide_eq_true_eq] at h
  have := lookI_lt (t := t) (names := predF l []) (by omega)
  omega
theorem look_has {l : List Rule} {r : Rule} (hm : r ∈ l) (hv : r.head.b.var = ⟨#[]⟩) : lookB r.head.b.term (predF l []) = true := by
  have h1 := predF_has (acc := []) hm hv
  have h2 := (atF_ge r.head.b.term (predF l []) 0).resolve_left h1
  simp only [lookB, decide_eq_true_eq]; omega
theorem stU_ok {l : List Rule} (h : (findN l).2 = 0) {r : Rule} (hm : r ∈ l) : 1 ≤ stU l r ∧ stU l r ≤ l.length := by
  have hp : 0 < l.length := List.length_pos_of_mem hm
  have hn := predF_len l []
  simp only [List.length_nil, Nat.zero_add] at hn
  rw [stU]
  split
  · rename_i hv
    have hl := look_of (look_has hm hv)
    have hf := findN_vals h
    exact ⟨hf.1.2 _ hl.2, Int.le_trans (hf.2 _ hl.2) (by omega)⟩
  · omega
theorem find_get {l : List Rule} (h : (findN l).2 = 0) {t : Term} (hl : lookB t (predF l []) = true) : ((findN l).1.map eI64)[(lookI t (predF l [])).toNat]? = some (eI64 ((findN l).1.getD (lookI t (predF l [])).toNat 0)) := by
  have h1 := look_of hl
  have h2 := (findN_vals h).1.1
  rw [List.getElem?_map, List.getD_eq_getElem?_getD, List.getElem?_eq_getElem (by omega)]
  rfl
theorem padL_done {ls : List (List Int)} {ls2 : List (List Int)} {s : Nat} (h : ls2 = ls ++ List.replicate (ls2.length - ls.length) []) (h1 : s ≤ ls2.length) (h2 : ls2.length ≤ ls.length ∨ ls2.length ≤ s) (h3 : ls.length ≤ ls2.length) : ls2 = padL ls s := by
  rw [padL]
  rcases h2 with h2 | h2
  · rw [show s - ls.length = ls2.length - ls.length by omega]; exact h
  · rw [show s - ls.length = ls2.length - ls.length by omega]; exact h
theorem putL_eq {ls ls2 : List (List Int)} {s : Int} {i : Int} {q : List Int} (h : ls2 = padL ls s.toNat) (hs : 1 ≤ s) (hq : ls2[(s - 1).toNat]? = some q) : ls2.set (s - 1).toNat (q ++ [i]) = putL ls s.toNat i := by
  rw [putL, ← h, show s.toNat - 1 = (s - 1).toNat by omega, List.getD_eq_getElem?_getD, hq]; rfl
end Go.AM.Tryd
end
section
set_option maxRecDepth 100000
set_option maxHeartbeats 4000000
set_option linter.unusedVariables false
set_option linter.unusedSimpArgs false
namespace Go.AM.Tryd
open Go Go.AM Go.AM.D
theorem layers_ (l : List Rule) (hl : okRs l) (hbods : bods l ≤ 1048576) : PFn PR (.fn (.func 9) [] []) [.sl .any 13 (l.map eRule)] (.tup [.sl .any 1 (((layU l).1).map (fun l => [.sl .any 1 (l.map eI64)])), .lit (.int .i64 ((layU l).2))]) := by
  have hl1 := hl.1
  have hPl := predF_len l []
  simp only [List.length_nil, Nat.zero_add] at hPl
  refine PFn_of Go.Proofs.Tryz.func9 rfl (by rfl) Go.Proofs.Tryz.ntmps9 rfl (by simp) fun h => ?_
  refine AW_x [(4, 0)] [] ?_
  refine ⟨1, _, (find_ _ (by assumption) (by assumption)), brD (fun hc2 => ?_) (fun hc2 => ?_)⟩
  · skip
    have hw : layU l = ([], (findN l).2) := by rw [layU, if_pos hc2]
    refine ⟨1, ?_⟩
    refine AW_any (k := 2) rfl ?_
    exact AW_ret (ret_le2 (.inl rfl) rfl (by first | (rw [hw]; done) | (rw [hw]; rfl)) (.refl _))
  · skip
    have hz : (findN l).2 = 0 := by simpa using hc2
    have hfv := findN_vals hz
    have hw : layU l = (laysF (stU l) 0 l [], 0) := by rw [layU, if_neg (by simp [hz])]
    refine AW_say (k := 4) (.ip (eGraph (seeG l))) rfl (by rw [gptr, if_pos hz]) ?_
    refine AW_seq ?_
    refine AW_xr [] [] ?_
    refine ⟨1, ?_⟩
    refine AW_x [] [] ?_
    refine ⟨L22, _, lm, ?_⟩
    refine AW_it [(9, 0), (13, 0)] [(13, 6), (13, 7), (13, 11)] [(2, _), (3, _), (4, _), (5, _), (20, _), (21, _)] (fun (z_ : Nat × List (List Int) × AV × Heap) => match z_ with | (i, ls, ov, hp) => [(22, .lit (.int .i64 ((i : Nat) : Int))), (7, ov)]) (fun (z_ : Nat × List (List Int) × AV × Heap) => match z_ with | (i, ls, ov, hp) => hp) (fun (z_ : Nat × List (List Int) × AV × Heap) => match z_ with | (i, ls, ov, hp) => i ≤ l.length ∧ laysF (stU l) 0 l [] = laysF (stU l) i (l.drop i) ls ∧ OutV eI64 1 hp h ov ls ∧ h.le hp ∧ ls.length ≤ 1048576 ∧ ∀ x ∈ ls, x.length ≤ i) (fun (z_ : Nat × List (List Int) × AV × Heap) => match z_ with | (i, ls, ov, hp) => l.length - i) ((0, [], .sl .nil 1 [], h)) ⟨rfl, rfl, rfl, rfl, rfl, rfl, trivial⟩ ⟨rfl, rfl, trivial⟩ rfl (⟨by omega, rfl, .inl ⟨1, rfl, rfl⟩, .refl _, by simp, by simp⟩) ?_
    rintro ⟨i, ls, ov, hp⟩ ⟨hIi, hS, hO, hle, hll, hlx⟩
    refine brD (fun hc6 => ?_) (fun hc6 => ?_)
    · skip
      obtain ⟨r, hrr, hdr, hmr⟩ := drop_at (l := l) (i := i) (by omega)
      rw [hdr, laysF] at hS
      refine ⟨L22, _, ⟨rfl, (by first | decide | omega), (mget hrr)⟩, T46, ?_⟩
      refine AL_alloc rfl rfl rfl rfl z46 fun b hb => ?_
      refine AL_x [] [] 4 ?_
      refine AL_storeF (v := .agg (eRule r)) rfl rfl rfl ty46 rfl rfl hb rfl rfl rfl ?_
      refine AL_nil ?_
      refine AW_join (α := Int) (fun (s : Int) => [(10, .lit (.int .i64 s)), (22, .lit (.int .i64 ((i : Nat) : Int))), (7, ov), (2, .sl .nil 1 []), (3, .lit (.int .i64 0)), (4, .ip (eGraph (seeG l))), (5, .sl .any 1 (((findN l).1).map eI64)), (20, .sl .any 13 (l.map eRule)), (21, .lit (.int .i64 (l.length : Int))), (8, .lit (.int .i64 ((i : Nat) : Int)))]) (fun (s : Int) => hp) (fun (s : Int) => s = stU l r) ?_ ?_
      · skip
        refine AW_x [] [] ?_
        refine ⟨F46_0, A43, by decide, F41_0, T9, brD (fun hc9 => ?_) (fun hc9 => ?_)⟩
        · skip
          have hlb := look_has hmr hc9
          have hlk := look_of hlb
          have hlk0 : 0 ≤ lookI r.head.b.term (seeG l).names := hlk.1
          refine ⟨⟨hmixed, by kernel_rfl⟩, F62_1, T59, F46_0, A43, by decide, F41_1, T25, (.lit (.int .i64 (lookI r.head.b.term ((seeG l).names)))), PO_lookO' rfl rfl rfl, L32, _, ⟨rfl, (by first | decide | omega), (find_get hz hlb)⟩, T3, ?_⟩
          exact ⟨_, by rw [stU, if_pos hc9], ⟨rfl, ⟨rfl, rfl, rfl, rfl, rfl, rfl, rfl, rfl, rfl, rfl, trivial⟩, rfl, rfl, rfl⟩⟩
        · skip
          exact ⟨_, by rw [stU, if_neg hc9], ⟨rfl, ⟨rfl, rfl, rfl, rfl, rfl, rfl, rfl, rfl, rfl, rfl, trivial⟩, rfl, rfl, rfl⟩⟩
      · rintro s hs
        have hvo := stU_ok hz hmr
        rw [← hs] at hvo
        refine AW_x [(13, 0)] [(13, 6), (13, 7), (13, 11)] ?_
        refine AW_it [] [(11, 1)] [(10, _), (22, _), (2, _), (3, _), (4, _), (5, _), (20, _), (21, _), (8, _)] (fun (z_ : List (List Int) × AV × Heap) => match z_ with | (ls2, ov2, hp2) => [(7, ov2)]) (fun (z_ : List (List Int) × AV × Heap) => match z_ with | (ls2, ov2, hp2) => hp2) (fun (z_ : List (List Int) × AV × Heap) => match z_ with | (ls2, ov2, hp2) => ls2 = ls ++ List.replicate (ls2.length - ls.length) [] ∧ ls.length ≤ ls2.length ∧ (ls2.length ≤ ls.length ∨ ls2.length ≤ s.toNat) ∧ OutV eI64 1 hp2 h ov2 ls2 ∧ h.le hp2) (fun (z_ : List (List Int) × AV × Heap) => match z_ with | (ls2, ov2, hp2) => s.toNat - ls2.length) ((ls, ov, hp)) ⟨rfl, rfl, rfl, rfl, rfl, rfl, rfl, rfl, rfl, trivial⟩ ⟨rfl, trivial⟩ rfl (⟨by simp, by omega, .inl (by omega), hO, hle⟩) ?_
        rintro ⟨ls2, ov2, hp2⟩ ⟨hpad, hln2, hor2, hO2, hle2⟩
        refine ⟨(.lit (.int .i64 (ls2.length : Int))), hO2.len rfl un28 rfl, brD (fun hc11 => ?_) (fun hc11 => ?_)⟩
        · skip
          refine ⟨(.sl .full 1 [[.sl .nil 0 []]]), PO_buildSlice (n := 1) (S := 1) (rs := [.sl .nil 0 []]) rfl un28 ty32 z32 rfl rfl rfl (by decide) rfl (by decide), ?_⟩
          refine AL_m rfl rfl rfl (MO_outs hO2 hle2 rfl un28 un28 ty32 z32 by32 rfl rfl (by omega) (by omega)) ?_
          rintro ov3 hp3 ⟨hO3, hle3⟩
          refine AL_x [] [] 3 ?_
          exact ⟨(ls2 ++ [[]], ov3, hp3), ⟨by
              rw [List.length_append, List.length_singleton, show ls2.length + 1 - ls.length = (ls2.length - ls.length) + 1 by omega, List.replicate_succ', ← List.append_assoc, ← hpad], by rw [List.length_append]; omega, .inr (by rw [List.length_append, List.length_singleton]; omega), hO3, hle3⟩, by simp only [List.length_append, List.length_singleton]; omega, ⟨rfl, ⟨rfl, rfl, rfl, rfl, rfl, rfl, rfl, rfl, rfl, rfl, trivial⟩, rfl, rfl, rfl⟩⟩
        · skip
          rw [← hs] at hS
          have hlx2 : ∀ x ∈ ls2, x.length ≤ i := fun x hx => by
            rw [hpad, List.mem_append] at hx
            rcases hx with hx | hx
            · exact hlx x hx
            · rw [List.eq_of_mem_replicate hx]; simp
          have hpd := padL_done hpad (show s.toNat ≤ ls2.length by omega) hor2 hln2
          obtain ⟨bo, cap, fo, rfl, hF, hfl, hbo, hls, hlc⟩ := hO2.ms (by omega)
          obtain ⟨p, hp_, -, hpm⟩ := drop_at (l := fo) (i := (s - 1).toNat) (by omega)
          have hpg : ls2[(s - 1).toNat]? = some p.l := by
            rw [← hls, List.getElem?_map, List.getElem?_take, if_pos (by omega), hp_]; rfl
          have hpl := hlx2 p.l (List.mem_of_getElem? hpg)
          refine AW_xr [] [6, 7, 11] ?_
          refine ⟨(s - 1), fz rfl trivial (i64w (by omega) (by omega)), (s - 1), fz rfl trivial (i64w (by omega) (by omega)), (.ptr bo ((s - 1).toNat)), PO_ixn (i := s - 1) rfl un28 ty32 rfl rfl (by omega) (by omega), (.sl p.own p.S (p.l.map eI64)), PO_load_row rfl ty32 rfl hF.row (gs_load hp_ rfl), (.sl .full 1 ([((i : Nat) : Int)].map eI64)), PO_buildSlice (n := 1) (S := 1) (rs := [.lit (.int .i64 ((i : Nat) : Int))] ++ []) rfl un32 ty3 z3 rfl rfl rfl (by decide) rfl (by decide), ?_⟩
          refine AL_m rfl rfl rfl (MO_appT (f := eI64) (acc := p.l) (ys := [((i : Nat) : Int)]) (os := fo.map Gs.ow) (i := (s - 1).toNat) rfl un32 un32 ty3 z3 rfl by3 rfl rfl (hF.sz p hpm) (by simp) hF.toks (by rw [List.getElem?_map, hp_]; rfl) hle2 (by simp only [List.length_singleton]; omega) (by simp only [List.length_singleton]; omega)) ?_
          rintro _ hq ⟨own2, rfl, hT, hleq, hsame⟩
          refine AL_x [] [11] 11 ?_
          refine ⟨(.ptr bo ((s - 1).toNat)), PO_ixn (i := s - 1) rfl un28 ty32 rfl rfl (by omega) (by omega), ?_⟩
          refine AL_storeC (vs := [.sl own2 1 ((p.l ++ [((i : Nat) : Int)]).map eI64)]) (b := bo) (off := (s - 1).toNat) (cs := fo.map (Gs.cell eI64)) (v := .sl own2 1 ((p.l ++ [((i : Nat) : Int)]).map eI64)) rfl rfl rfl rfl ty32 rfl rfl (hsame.row hF.row) rfl rfl (by rw [List.length_map]; omega) ?_
          have hF4 := hF.app (acc := p.l ++ [((i : Nat) : Int)]) (by omega) hsame hT
          have hle4 := Heap.le_upd hleq hbo (some (.row (setCells (fo.map (Gs.cell eI64)) (s - 1).toNat [.sl own2 1 ((p.l ++ [((i : Nat) : Int)]).map eI64)])))
          generalize hq.upd bo (some (.row (setCells (fo.map (Gs.cell eI64)) (s - 1).toNat [.sl own2 1 ((p.l ++ [((i : Nat) : Int)]).map eI64)]))) = hp4 at hF4 hle4 ⊢
          have hput : ls2.set (s - 1).toNat (p.l ++ [((i : Nat) : Int)]) = putL ls s.toNat i := putL_eq hpd (by omega) hpg
          have hO4 : OutV eI64 1 hp4 h (.ms bo 0 1 ls2.length cap) (putL ls s.toNat i) := by
            rw [← hput]
            refine .inr ⟨bo, cap, _, by rw [List.length_set], hF4, by rw [List.length_set]; exact hfl, hbo, ?_, by rw [List.length_set]; exact hlc⟩
            rw [List.length_set, List.take_set, List.map_set, hls]
          have hlx4 : ∀ x ∈ putL ls s.toNat i, x.length ≤ i + 1 := fun x hx => by
            rw [← hput] at hx
            rcases List.mem_or_eq_of_mem_set hx with hx | rfl
            · have := hlx2 x hx; omega
            · rw [List.length_append, List.length_singleton]; omega
          refine AL_nil ?_
          refine ⟨_, f1 (by first | omega | (simp_all <;> omega)), ?_⟩
          exact ⟨(i + 1, putL ls s.toNat i, .ms bo 0 1 ls2.length cap, hp4), ⟨by omega, hS, hO4, hle4, by rw [← hput, List.length_set]; omega, hlx4⟩, by simp only []; omega, ⟨rfl, ⟨rfl, rfl, rfl, rfl, rfl, rfl, rfl, rfl, trivial⟩, rfl, rfl, rfl⟩⟩
    · skip
      rw [drop_end (l := l) (i := i) (by omega), laysF] at hS
      rw [hS] at hw
      refine AW_outs (k := 2) rfl hO hle fun h9 hle9 => ?_
      refine AW_ret ?_
      exact ret_le2 (.inl rfl) rfl (by first | (rw [hw]; done) | (rw [hw]; rfl)) hle9
end Go.AM.Tryd
end
section
set_option maxRecDepth 100000
set_option maxHeartbeats 4000000
set_option linter.unusedVariables false
set_option linter.unusedSimpArgs false
namespace Go.AM.Tryd
open Go Go.AM Go.AM.D
def httpB : ByteArray := ⟨#[104, 116, 116, 112, 58, 47, 47]⟩
def iriS (s : ByteArray) : Slot := ⟨⟨#[]⟩, ⟨1, httpB ++ s, ⟨#[]⟩⟩⟩
def sx : Slot := ⟨⟨#[120]⟩, ⟨0, ⟨#[]⟩, ⟨#[]⟩⟩⟩
def litS (k : Int) (s : ByteArray) : Lt := ⟨k, ⟨sx, iriS s, sx⟩, ⟨⟨#[]⟩, ⟨0, ⟨#[]⟩, ⟨#[]⟩⟩⟩, ⟨⟨#[]⟩, ⟨0, ⟨#[]⟩, ⟨#[]⟩⟩⟩⟩
def simpleR (a b c : ByteArray) : Rule := ⟨⟨sx, iriS a, sx⟩, litS 1 b :: (if c ≠ ⟨#[]⟩ then [litS 2 c] else [])⟩
theorem iri21_ (s : ByteArray) (hs : s.size ≤ 1048576) : PFn PR (.fn (.func 27) [] []) [.lit (.string s)] (.agg (eSlot (iriS s))) := by
  refine PFn_ofG Go.Proofs.Tryz.func27 rfl (by rfl) Go.Proofs.Tryz.ntmps27 rfl (by simp) fun h => ?_
  refine AW_x [] [(1, 1)] ?_
  refine AL_alloc rfl rfl rfl rfl z41 fun b hb => ?_
  have hle0 : h.le (h.upd b (some (.row zs41))) := Heap.le_upd (.refl h) hb _
  refine AL_nil ?_
  refine ⟨(.lit (.string (httpB ++ s))), PO_concat rfl rfl rfl (by rw [show httpB.size = 7 from rfl]; omega), (.agg (eTerm (⟨1, (httpB ++ s), ⟨#[]⟩⟩ : Term))), PO_build rfl z25 pl25 rfl rfl, (.agg (eSlot (⟨⟨#[]⟩, (⟨1, (httpB ++ s), ⟨#[]⟩⟩ : Term)⟩ : Slot))), PO_build rfl z41 pl41 rfl rfl, ?_⟩
  refine AL_storeC (vs := eSlot (iriS s)) (b := b) (off := 0) (cs := zs41) (v := .agg (eSlot (iriS s))) rfl rfl rfl rfl ty41 rfl rfl (Heap.upd_same _ _ _) rfl rfl (by simp) ?_
  refine AL_nil ?_
  refine AW_ret ?_
  exact ret_G (.inl rfl) (Results.cell rfl ty41 rfl (Heap.upd_same _ _ _) rfl) rfl (Heap.le_upd hle0 hb _) (by simp)
theorem simple14_ (s t u : ByteArray) (hs : s.size ≤ 1048576) (ht : t.size ≤ 1048576) (hu : u.size ≤ 1048576) : PFn PR (.fn (.func 10) [] []) [.lit (.string s), .lit (.string t), .lit (.string u)] (.agg (eRule (simpleR s t u))) := by
  refine PFn_ofG Go.Proofs.Tryz.func10 rfl (by rfl) Go.Proofs.Tryz.ntmps10 rfl (by simp) fun h => ?_
  refine AW_x [(2, 0), (3, 0), (4, 0)] [(2, 0), (2, 3), (2, 5), (2, 8), (4, 0), (4, 1), (4, 2), (4, 5), (4, 10), (5, 0)] ?_
  refine AL_alloc rfl rfl rfl rfl z46 fun b hb => ?_
  have hle0 : h.le (h.upd b (some (.row zs46))) := Heap.le_upd (.refl h) hb _
  refine AL_nil ?_
  refine ⟨(.agg (eSlot sx)), PO_build rfl z41 pl41 rfl rfl, ?_⟩
  refine AL_als rfl rfl rfl rfl rfl rfl al41 rfl rfl rfl rfl rfl ?_
  refine AL_nil ?_
  refine AW_seq ?_
  refine AW_draw1 13 [.agg (eSlot sx), .lit (.string s), .agg (eSlot (iriS s)), .agg (eSlot sx), .agg (ePat ⟨sx, iriS s, sx⟩), .agg (eSlot sx), .lit (.string t), .agg (eSlot (iriS t)), .agg (eSlot sx), .agg (ePat ⟨sx, iriS t, sx⟩), .agg (eLit (litS 1 t)), .sl .full 21 ([litS 1 t].map eLit), .agg (ePat ⟨sx, iriS s, sx⟩ ++ [.sl .full 21 ([litS 1 t].map eLit)])] [(0, .lit (.string s)), (1, .lit (.string t)), (2, .lit (.string u)), (6, .ptr b 0), (7, .ip (eSlot sx)), (10, .agg (eSlot sx)), (11, .lit (.string s)), (12, .agg (eSlot (iriS s))), (13, .agg (eSlot sx)), (14, .agg (ePat ⟨sx, iriS s, sx⟩)), (15, .agg (eSlot sx)), (16, .lit (.string t)), (17, .agg (eSlot (iriS t))), (18, .agg (eSlot sx)), (19, .agg (ePat ⟨sx, iriS t, sx⟩)), (20, .agg (eLit (litS 1 t))), (21, .sl .full 21 ([litS 1 t].map eLit)), (22, .agg (ePat ⟨sx, iriS s, sx⟩ ++ [.sl .full 21 ([litS 1 t].map eLit)]))] (fun _ => True) _ (tmx := []) rfl hmixed (by kernel_rfl) rfl rfl rfl rfl rfl trivial trivial (MO_alloc rfl z46) (fun _ _ _ => trivial) rfl (by kernel_rfl) (fun hh hK => ⟨
    ⟨[(7, .ip (eSlot sx))], ⟨.inr ⟨by kernel_rfl, rfl⟩, trivial⟩, .inl ⟨rfl, PO_load rfl ty41 rfl rfl⟩⟩,
    ⟨[(0, .lit (.string s))], ⟨.inr ⟨by kernel_rfl, rfl⟩, trivial⟩, .inl ⟨rfl, PO_move rfl rfl⟩⟩,
    ⟨[(11, .lit (.string s))], ⟨.inl ⟨1, by kernel_rfl, rfl, rfl⟩, trivial⟩, .inl ⟨rfl, PO_call rfl rfl rfl (iri21_ _ (by first | assumption | omega))⟩⟩,
    ⟨[(7, .ip (eSlot sx))], ⟨.inr ⟨by kernel_rfl, rfl⟩, trivial⟩, .inl ⟨rfl, PO_load rfl ty41 rfl rfl⟩⟩,
    ⟨[(10, .agg (eSlot sx)), (12, .agg (eSlot (iriS s))), (13, .agg (eSlot sx))], ⟨.inl ⟨0, by kernel_rfl, rfl, rfl⟩, .inl ⟨2, by kernel_rfl, rfl, rfl⟩, .inl ⟨3, by kernel_rfl, rfl, rfl⟩, trivial⟩, .inl ⟨rfl, PO_build_arr rfl z43 un43 ty41 rfl rfl⟩⟩,
    ⟨[(7, .ip (eSlot sx))], ⟨.inr ⟨by kernel_rfl, rfl⟩, trivial⟩, .inl ⟨rfl, PO_load rfl ty41 rfl rfl⟩⟩,
    ⟨[(1, .lit (.string t))], ⟨.inr ⟨by kernel_rfl, rfl⟩, trivial⟩, .inl ⟨rfl, PO_move rfl rfl⟩⟩,
    ⟨[(16, .lit (.string t))], ⟨.inl ⟨6, by kernel_rfl, rfl, rfl⟩, trivial⟩, .inl ⟨rfl, PO_call rfl rfl rfl (iri21_ _ (by first | assumption | omega))⟩⟩,
    ⟨[(7, .ip (eSlot sx))], ⟨.inr ⟨by kernel_rfl, rfl⟩, trivial⟩, .inl ⟨rfl, PO_load rfl ty41 rfl rfl⟩⟩,
    ⟨[(15, .agg (eSlot sx)), (17, .agg (eSlot (iriS t))), (18, .agg (eSlot sx))], ⟨.inl ⟨5, by kernel_rfl, rfl, rfl⟩, .inl ⟨7, by kernel_rfl, rfl, rfl⟩, .inl ⟨8, by kernel_rfl, rfl, rfl⟩, trivial⟩, .inl ⟨rfl, PO_build_arr rfl z43 un43 ty41 rfl rfl⟩⟩,
    ⟨[(19, .agg (ePat ⟨sx, iriS t, sx⟩))], ⟨.inl ⟨9, by kernel_rfl, rfl, rfl⟩, trivial⟩, .inl ⟨rfl, PO_build rfl z68 pl68 rfl rfl⟩⟩,
    ⟨[(20, .agg (eLit (litS 1 t)))], ⟨.inl ⟨10, by kernel_rfl, rfl, rfl⟩, trivial⟩, .inl ⟨rfl, PO_buildSlice (n := 1) (S := 21) (rs := eLit (litS 1 t) ++ []) rfl un44 ty68 z68 rfl rfl rfl (by decide) rfl (by decide)⟩⟩,
    ⟨[(14, .agg (ePat ⟨sx, iriS s, sx⟩)), (21, .sl .full 21 ([litS 1 t].map eLit))], ⟨.inl ⟨4, by kernel_rfl, rfl, rfl⟩, .inl ⟨11, by kernel_rfl, rfl, rfl⟩, trivial⟩, .inl ⟨rfl, PO_build rfl z46 pl46 rfl rfl⟩⟩,
    trivial⟩) ⟨.inr ⟨by kernel_rfl, rfl⟩, .inr ⟨by kernel_rfl, rfl⟩, .inr ⟨by kernel_rfl, rfl⟩, .inr ⟨by kernel_rfl, rfl⟩, .inr ⟨by kernel_rfl, rfl⟩, .inl ⟨0, by decide, rfl, rfl⟩, .inl ⟨1, by decide, rfl, rfl⟩, .inl ⟨2, by decide, rfl, rfl⟩, .inl ⟨3, by decide, rfl, rfl⟩, .inl ⟨4, by decide, rfl, rfl⟩, .inl ⟨5, by decide, rfl, rfl⟩, .inl ⟨6, by decide, rfl, rfl⟩, .inl ⟨7, by decide, rfl, rfl⟩, .inl ⟨8, by decide, rfl, rfl⟩, .inl ⟨9, by decide, rfl, rfl⟩, .inl ⟨10, by decide, rfl, rfl⟩, .inl ⟨11, by decide, rfl, rfl⟩, .inl ⟨12, by decide, rfl, rfl⟩, trivial⟩ ?_
  rintro _ _ ⟨b8, hb80, rfl, rfl⟩
  have hb81 : (h.upd b (some (.row zs46))) b8 = none := hb80
  have hb8 : h b8 = none := Heap.none_of hle0 hb81
  have hbb : b ≠ b8 := fun e => by subst e; rw [Heap.upd_same] at hb81; cases hb81
  refine AL_storeC (vs := (ePat ⟨sx, iriS s, sx⟩ ++ [.sl .full 21 ([litS 1 t].map eLit)])) (b := b8) (off := 0) (cs := zs46) (v := .agg (ePat ⟨sx, iriS s, sx⟩ ++ [.sl .full 21 ([litS 1 t].map eLit)])) rfl rfl rfl rfl ty46 rfl rfl (Heap.upd_same _ _ _) rfl rfl (by simp) ?_
  have hrow := Heap.upd_same ((h.upd b (some (.row zs46))).upd b8 (some (.row zs46))) b8 (some (.row (setCells zs46 0 (ePat ⟨sx, iriS s, sx⟩ ++ [.sl .full 21 ([litS 1 t].map eLit)]))))
  have hroA := (Heap.upd_other ((h.upd b (some (.row zs46))).upd b8 (some (.row zs46))) hbb (some (.row (setCells zs46 0 (ePat ⟨sx, iriS s, sx⟩ ++ [.sl .full 21 ([litS 1 t].map eLit)]))))).trans ((Heap.upd_other (h.upd b (some (.row zs46))) hbb (some (.row zs46))).trans (Heap.upd_same _ _ _))
  have hle1 := Heap.le_upd (Heap.le_upd hle0 hb8 (some (.row zs46))) hb8 (some (.row (setCells zs46 0 (ePat ⟨sx, iriS s, sx⟩ ++ [.sl .full 21 ([litS 1 t].map eLit)]))))
  generalize ((h.upd b (some (.row zs46))).upd b8 (some (.row zs46))).upd b8 (some (.row (setCells zs46 0 (ePat ⟨sx, iriS s, sx⟩ ++ [.sl .full 21 ([litS 1 t].map eLit)])))) = h1 at hrow hroA hle1 ⊢
  refine AL_nil ?_
  refine AW_join (α := Own × List Lt × Heap) (fun (z_ : Own × List Lt × Heap) => match z_ with | (own3, bd, hp) => [(8, .ptr b8 0), (6, .ptr b 0)]) (fun (z_ : Own × List Lt × Heap) => match z_ with | (own3, bd, hp) => hp) (fun (z_ : Own × List Lt × Heap) => match z_ with | (own3, bd, hp) => hp b8 = some (.row (ePat ⟨sx, iriS s, sx⟩ ++ [.sl own3 21 (bd.map eLit)])) ∧ hp b = some (.row zs46) ∧ h.le hp ∧ bd = (simpleR s t u).body) ?_ ?_
  · skip
    refine AW_x [(4, 0)] [(4, 0), (4, 1), (4, 2), (4, 5), (4, 10)] ?_
    refine brD (fun hc3 => ?_) (fun hc3 => ?_)
    · skip
      refine AW_draw1 9 [.ptr b8 12, .sl .full 21 ([litS 1 t].map eLit), .agg (eSlot sx), .lit (.string u), .agg (eSlot (iriS u)), .agg (eSlot sx), .agg (ePat ⟨sx, iriS u, sx⟩), .agg (eLit (litS 2 u)), .sl .full 21 ([litS 2 u].map eLit)] [(8, .ptr b8 0), (0, .lit (.string s)), (1, .lit (.string t)), (2, .lit (.string u)), (6, .ptr b 0), (7, .ip (eSlot sx)), (10, .agg (eSlot sx)), (11, .lit (.string s)), (12, .agg (eSlot (iriS s))), (13, .agg (eSlot sx)), (14, .agg (ePat ⟨sx, iriS s, sx⟩)), (15, .agg (eSlot sx)), (16, .lit (.string t)), (17, .agg (eSlot (iriS t))), (18, .agg (eSlot sx)), (19, .agg (ePat ⟨sx, iriS t, sx⟩)), (20, .agg (eLit (litS 1 t))), (21, .sl .full 21 ([litS 1 t].map eLit)), (22, .agg (ePat ⟨sx, iriS s, sx⟩ ++ [.sl .full 21 ([litS 1 t].map eLit)])), (24, .lit (.bool (decide (u ≠ ⟨#[]⟩)))), (25, .ptr b8 12), (26, .sl .full 21 ([litS 1 t].map eLit)), (27, .agg (eSlot sx)), (28, .lit (.string u)), (29, .agg (eSlot (iriS u))), (30, .agg (eSlot sx)), (31, .agg (ePat ⟨sx, iriS u, sx⟩)), (32, .agg (eLit (litS 2 u))), (33, .sl .full 21 ([litS 2 u].map eLit))] (fun hh => hh b8 = some (.row (setCells zs46 0 (ePat ⟨sx, iriS s, sx⟩ ++ [.sl .full 21 ([litS 1 t].map eLit)])))) _ (tmx := [(26, .sl .full 21 ([litS 1 t].map eLit)), (33, .sl .full 21 ([litS 2 u].map eLit))]) rfl hmixed (by kernel_rfl) rfl rfl rfl rfl rfl hrow ⟨.inl ⟨1, by kernel_rfl, rfl, rfl⟩, .inl ⟨8, by kernel_rfl, rfl, rfl⟩, trivial⟩ (MO_grow (f := eLit) (acc := [litS 1 t]) (ys := [litS 2 u]) (hg := h1) rfl un44 un44 ty68 z68 rfl by68 rfl rfl (.inl rfl) (by simp) (Grow.full _ _ _) (by simp) (by simp)) (fun _ _ ⟨_, _, hG⟩ => hG.le _ _ hrow) rfl (by kernel_rfl) (fun hh hK => ⟨
        ⟨[(8, .ptr b8 0)], ⟨.inr ⟨by kernel_rfl, rfl⟩, trivial⟩, .inl ⟨rfl, PO_fieldAddr_row rfl f46_1 rfl⟩⟩,
        ⟨[(25, .ptr b8 12)], ⟨.inl ⟨0, by kernel_rfl, rfl, rfl⟩, trivial⟩, .inl ⟨rfl, PO_load_row rfl ty44 rfl hK rfl⟩⟩,
        ⟨[(7, .ip (eSlot sx))], ⟨.inr ⟨by kernel_rfl, rfl⟩, trivial⟩, .inl ⟨rfl, PO_load rfl ty41 rfl rfl⟩⟩,
        ⟨[(2, .lit (.string u))], ⟨.inr ⟨by kernel_rfl, rfl⟩, trivial⟩, .inl ⟨rfl, PO_move rfl rfl⟩⟩,
        ⟨[(28, .lit (.string u))], ⟨.inl ⟨3, by kernel_rfl, rfl, rfl⟩, trivial⟩, .inl ⟨rfl, PO_call rfl rfl rfl (iri21_ _ (by first | assumption | omega))⟩⟩,
        ⟨[(7, .ip (eSlot sx))], ⟨.inr ⟨by kernel_rfl, rfl⟩, trivial⟩, .inl ⟨rfl, PO_load rfl ty41 rfl rfl⟩⟩,
        ⟨[(27, .agg (eSlot sx)), (29, .agg (eSlot (iriS u))), (30, .agg (eSlot sx))], ⟨.inl ⟨2, by kernel_rfl, rfl, rfl⟩, .inl ⟨4, by kernel_rfl, rfl, rfl⟩, .inl ⟨5, by kernel_rfl, rfl, rfl⟩, trivial⟩, .inl ⟨rfl, PO_build_arr rfl z43 un43 ty41 rfl rfl⟩⟩,
        ⟨[(31, .agg (ePat ⟨sx, iriS u, sx⟩))], ⟨.inl ⟨6, by kernel_rfl, rfl, rfl⟩, trivial⟩, .inl ⟨rfl, PO_build rfl z68 pl68 rfl rfl⟩⟩,
        ⟨[(32, .agg (eLit (litS 2 u)))], ⟨.inl ⟨7, by kernel_rfl, rfl, rfl⟩, trivial⟩, .inl ⟨rfl, PO_buildSlice (n := 1) (S := 21) (rs := eLit (litS 2 u) ++ []) rfl un44 ty68 z68 rfl rfl rfl (by decide) rfl (by decide)⟩⟩,
        trivial⟩) ⟨.inr ⟨by kernel_rfl, rfl⟩, .inr ⟨by kernel_rfl, rfl⟩, .inr ⟨by kernel_rfl, rfl⟩, .inr ⟨by kernel_rfl, rfl⟩, .inr ⟨by kernel_rfl, rfl⟩, .inr ⟨by kernel_rfl, rfl⟩, .inr ⟨by kernel_rfl, rfl⟩, .inr ⟨by kernel_rfl, rfl⟩, .inr ⟨by kernel_rfl, rfl⟩, .inr ⟨by kernel_rfl, rfl⟩, .inr ⟨by kernel_rfl, rfl⟩, .inr ⟨by kernel_rfl, rfl⟩, .inr ⟨by kernel_rfl, rfl⟩, .inr ⟨by kernel_rfl, rfl⟩, .inr ⟨by kernel_rfl, rfl⟩, .inr ⟨by kernel_rfl, rfl⟩, .inr ⟨by kernel_rfl, rfl⟩, .inr ⟨by kernel_rfl, rfl⟩, .inr ⟨by kernel_rfl, rfl⟩, .inr ⟨by kernel_rfl, rfl⟩, .inl ⟨0, by decide, rfl, rfl⟩, .inl ⟨1, by decide, rfl, rfl⟩, .inl ⟨2, by decide, rfl, rfl⟩, .inl ⟨3, by decide, rfl, rfl⟩, .inl ⟨4, by decide, rfl, rfl⟩, .inl ⟨5, by decide, rfl, rfl⟩, .inl ⟨6, by decide, rfl, rfl⟩, .inl ⟨7, by decide, rfl, rfl⟩, .inl ⟨8, by decide, rfl, rfl⟩, trivial⟩ ?_
      rintro _ hq ⟨own2, rfl, hG⟩
      refine AL_p rfl rfl rfl (v := .ptr b8 12) (PO_fieldAddr_row rfl f46_1 rfl) ?_
      refine AL_storeC (vs := [.sl own2 21 (([litS 1 t] ++ [litS 2 u]).map eLit)]) (b := b8) (off := 12) (cs := setCells zs46 0 (ePat ⟨sx, iriS s, sx⟩ ++ [.sl .full 21 ([litS 1 t].map eLit)])) (v := .sl own2 21 (([litS 1 t] ++ [litS 2 u]).map eLit)) rfl rfl rfl rfl ty44 rfl rfl (hG.le _ _ hrow) rfl rfl (by simp [setCells, ePat]) ?_
      have hrow2 := Heap.upd_same hq b8 (some (.row (setCells (setCells zs46 0 (ePat ⟨sx, iriS s, sx⟩ ++ [.sl .full 21 ([litS 1 t].map eLit)])) 12 [.sl own2 21 (([litS 1 t] ++ [litS 2 u]).map eLit)])))
      have hroB := (Heap.upd_other hq hbb (some (.row (setCells (setCells zs46 0 (ePat ⟨sx, iriS s, sx⟩ ++ [.sl .full 21 ([litS 1 t].map eLit)])) 12 [.sl own2 21 (([litS 1 t] ++ [litS 2 u]).map eLit)])))).trans (hG.le _ _ hroA)
      have hle2 := Heap.le_upd (hle1.trans hG.le) hb8 (some (.row (setCells (setCells zs46 0 (ePat ⟨sx, iriS s, sx⟩ ++ [.sl .full 21 ([litS 1 t].map eLit)])) 12 [.sl own2 21 (([litS 1 t] ++ [litS 2 u]).map eLit)])))
      generalize hq.upd b8 (some (.row (setCells (setCells zs46 0 (ePat ⟨sx, iriS s, sx⟩ ++ [.sl .full 21 ([litS 1 t].map eLit)])) 12 [.sl own2 21 (([litS 1 t] ++ [litS 2 u]).map eLit)]))) = h2 at hrow2 hroB hle2 ⊢
      refine AL_nil ?_
      exact ⟨(own2, [litS 1 t] ++ [litS 2 u], h2), ⟨hrow2, hroB, hle2, by rw [simpleR, if_pos hc3]; rfl⟩, ⟨rfl, ⟨rfl, rfl, trivial⟩, rfl, rfl, rfl⟩⟩
    · skip
      exact ⟨(.full, [litS 1 t], h1), ⟨hrow, hroA, hle1, by rw [simpleR, if_neg hc3]⟩, ⟨rfl, ⟨rfl, rfl, trivial⟩, rfl, rfl, rfl⟩⟩
  · rintro ⟨own3, bd, hp⟩ ⟨hro3, hroC, hle3, hbd⟩
    refine AW_x [] [(5, 0)] ?_
    refine ⟨(.agg (ePat ⟨sx, iriS s, sx⟩ ++ [.sl own3 21 (bd.map eLit)])), PO_load_row rfl ty46 rfl hro3 rfl, ?_⟩
    refine AL_storeC (vs := (ePat ⟨sx, iriS s, sx⟩ ++ [.sl own3 21 (bd.map eLit)])) (b := b) (off := 0) (cs := zs46) (v := .agg (ePat ⟨sx, iriS s, sx⟩ ++ [.sl own3 21 (bd.map eLit)])) rfl rfl rfl rfl ty46 rfl rfl hroC rfl rfl (by simp) ?_
    rw [show setCells zs46 0 (ePat ⟨sx, iriS s, sx⟩ ++ [.sl own3 21 (bd.map eLit)]) = (ePat ⟨sx, iriS s, sx⟩ ++ [.sl own3 21 (bd.map eLit)]) from rfl]
    refine AL_nil ?_
    refine AW_ghost (ghost_rowW (b := b) (ds := (ePat ⟨sx, iriS s, sx⟩ ++ [.sl own3 21 (bd.map eLit)])) (ds' := eRule (simpleR s t u)) (Heap.upd_same _ _ _) rfl fun i x y hx hy => ?_) ?_
    · have her : eRule (simpleR s t u) = ePat ⟨sx, iriS s, sx⟩ ++ [.sl .any 21 (bd.map eLit)] := by rw [hbd]; rfl
      rw [her] at hy
      rcases Nat.lt_or_ge i 12 with c | c
      · rw [List.getElem?_append_left c] at hx hy; rw [hx] at hy; injection hy with hy; subst hy; exact ⟨id, fun _ _ => id⟩
      · rw [List.getElem?_append_right c] at hx hy
        have hi : i - (ePat ⟨sx, iriS s, sx⟩).length = 0 := by have := (List.getElem?_eq_some_iff.1 hx).1; simpa using this
        rw [hi] at hx hy; injection hx with hx; injection hy with hy; subst hx; subst hy; exact ⟨fun _ => rfl, fun _ _ => VR.any⟩
    refine AW_ret ?_
    exact ret_G (.inl rfl) (Results.cell rfl ty46 rfl (Heap.upd_same _ _ _) rfl) rfl (Heap.le_upd (Heap.le_upd hle3 hb _) hb _) (by simp)
end Go.AM.Tryd
end
section
set_option maxRecDepth 100000
set_option linter.unusedVariables false
set_option linter.unusedSimpArgs false
namespace Go.AM.Tryd
open Go Go.AM Go.AM.D
abbrev sp : ByteArray := ⟨#[112]⟩
abbrev se : ByteArray := ⟨#[101]⟩
abbrev sq : ByteArray := ⟨#[113]⟩
abbrev sr : ByteArray := ⟨#[114]⟩
abbrev k1L : List Rule := [simpleR sp se sq, simpleR sq sr ⟨#[]⟩]
abbrev k2L : List Rule := [simpleR sp se sp]
theorem k1_out : (seeG k1L).out = [[⟨1, true⟩], []] := by decide +kernel
theorem k2_out : (seeG k2L).out = [[⟨0, true⟩]] := by decide +kernel
theorem k1_num : numV (clP (seeG k1L).out) (predF k1L []).length = some [2, 1] := by
  rw [k1_out, show (predF k1L []).length = 2 by decide +kernel]
  refine numV_some ⟨⟨rfl, fun j hj => ?_⟩, fun j hj => ?_, fun i es he e hm => ?_, fun ms hm hc j hj => ?_⟩
  · rcases j with _ | _ | j
    · decide
    · decide
    · omega
  · rcases j with _ | _ | j
    · decide
    · decide
    · omega
  · rcases i with _ | _ | i
    · injection he with he; subst he
      rw [List.mem_singleton] at hm; subst hm
      simp [eok]
    · injection he with he; subst he; cases hm
    · simp at he
  · have h1 := hm.2 1 (by omega)
    have h2 : ms.getD 1 0 + 1 ≤ ms.getD 0 0 := hc 0 _ rfl ⟨1, true⟩ (List.mem_singleton.2 rfl)
    rcases j with _ | _ | j
    · show (2 : Int) ≤ _; omega
    · exact h1
    · omega
theorem k2_num : numV (clP (seeG k2L).out) (predF k2L []).length = none := by
  rw [numV, dif_neg]
  rintro ⟨ns, h⟩
  have h2 : ns.getD 0 0 + 1 ≤ ns.getD 0 0 := by
    have := h.cl
    rw [k2_out] at this
    exact this 0 _ rfl ⟨0, true⟩ (List.mem_singleton.2 rfl)
  omega
theorem k1_find : findN k1L = ([2, 1], 0) := by
  rw [findN, if_neg (by rw [show progU k1L = 0 by decide +kernel]; simp), if_neg (by rw [show negF k1L = true by decide +kernel]; simp), k1_num]; rfl
theorem k2_find : findN k2L = ([], 6) := by
  rw [findN, if_neg (by rw [show progU k2L = 0 by decide +kernel]; simp), if_neg (by rw [show negF k2L = true by decide +kernel]; simp), k2_num]; rfl
theorem k1_lay : layU k1L = ([[1], [0]], 0) := by
  have h1 : stU k1L (simpleR sp se sq) = 2 := by
    rw [stU, k1_find]; decide +kernel
  have h2 : stU k1L (simpleR sq sr ⟨#[]⟩) = 1 := by
    rw [stU, k1_find]; decide +kernel
  rw [layU, k1_find, if_neg (by simp)]
  simp only [laysF, h1, h2]
  decide
theorem k2_lay : layU k2L = ([], 6) := by
  rw [layU, k2_find, if_pos (by simp)]
theorem okT_of {t : Term} (h : t.text.size ≤ 1048576 ∧ t.extra.size ≤ 1048576) : okT t := h
theorem okS_sx : okS sx := by unfold okS okT; decide +kernel
theorem okS_iri {s : ByteArray} (h : s.size ≤ 1048000) : okS (iriS s) := by
  refine ⟨Nat.zero_le _, ?_, Nat.zero_le _⟩
  have : (httpB ++ s).size = httpB.size + s.size := ByteArray.size_append
  show (httpB ++ s).size ≤ 1048576
  rw [this, show httpB.size = 7 from rfl]; omega
theorem okL_lit {k : Int} {s : ByteArray} (h : s.size ≤ 1048000) : okL (litS k s) := by
  refine ⟨⟨okS_sx, okS_iri h, okS_sx⟩, ?_, ?_⟩
  · exact ⟨Nat.zero_le _, Nat.zero_le _, Nat.zero_le _⟩
  · exact ⟨Nat.zero_le _, Nat.zero_le _, Nat.zero_le _⟩
theorem okR_simple {a b c : ByteArray} (ha : a.size ≤ 1048000) (hb : b.size ≤ 1048000) (hc : c.size ≤ 1048000) : okR (simpleR a b c) := by
  refine ⟨⟨okS_sx, okS_iri ha, okS_sx⟩, ?_, fun l hl => ?_⟩
  · simp only [simpleR]; split <;> simp
  · simp only [simpleR] at hl
    rcases List.mem_cons.1 hl with rfl | hl
    · exact okL_lit hb
    · split at hl
      · rw [List.mem_singleton] at hl; subst hl; exact okL_lit hc
      · cases hl
theorem k1_ok : okRs k1L := ⟨by decide, fun r hr => by
  rcases List.mem_cons.1 hr with rfl | hr
  · exact okR_simple (by decide) (by decide) (by decide)
  · rw [List.mem_singleton] at hr; subst hr; exact okR_simple (by decide) (by decide) (by decide)⟩
theorem k2_ok : okRs k2L := ⟨by decide, fun r hr => by
  rw [List.mem_singleton] at hr; subst hr; exact okR_simple (by decide) (by decide) (by decide)⟩
theorem k1_bods : bods k1L ≤ 1048576 := by decide +kernel
theorem k2_bods : bods k2L ≤ 1048576 := by decide +kernel
end Go.AM.Tryd
end
section
set_option maxRecDepth 100000
set_option maxHeartbeats 4000000
set_option linter.unusedVariables false
set_option linter.unusedSimpArgs false
namespace Go.AM.Tryd
open Go Go.AM Go.AM.D
theorem known_  : PFn PR (.fn (.func 5) [] []) [] (.lit (.bool true)) := by
  refine PFn_of Go.Proofs.Tryz.func5 rfl (by rfl) Go.Proofs.Tryz.ntmps5 rfl (by simp) fun h => ?_
  refine AW_x [] [(1, 3), (2, 2), (3, 1), (3, 4), (3, 5), (3, 11), (3, 12), (3, 20), (3, 26), (3, 27), (3, 35), (3, 39)] ?_
  refine ⟨_, (simple14_ _ _ _ (by first | assumption | decide) (by first | assumption | decide) (by first | assumption | decide)), _, (simple14_ _ _ _ (by first | assumption | decide) (by first | assumption | decide) (by first | assumption | decide)), (.sl .any 13 (k1L.map eRule)), PO_any (PO_buildSlice (n := 2) (S := 13) (rs := eRule (simpleR sp se sq) ++ (eRule (simpleR sq sr ⟨#[]⟩) ++ [])) rfl un22 ty46 z46 rfl rfl rfl (by decide) rfl (by decide)) rfl, (.tup [.sl .any 1 (([[1], [0]] : List (List Int)).map (fun l => [.sl .any 1 (l.map eI64)])), .lit (.int .i64 0)]), PO_eqA (PO_call rfl rfl rfl (layers_ k1L k1_ok k1_bods)) (by rw [k1_lay]), _, (simple14_ _ _ _ (by first | assumption | decide) (by first | assumption | decide) (by first | assumption | decide)), (.sl .any 13 (k2L.map eRule)), PO_any (PO_buildSlice (n := 1) (S := 13) (rs := eRule (simpleR sp se sp) ++ []) rfl un22 ty46 z46 rfl rfl rfl (by decide) rfl (by decide)) rfl, (.tup [.sl .any 1 (([] : List (List Int)).map (fun l => [.sl .any 1 (l.map eI64)])), .lit (.int .i64 6)]), PO_eqA (PO_call rfl rfl rfl (layers_ k2L k2_ok k2_bods)) (by rw [k2_lay]), (.lit (.bool true)), PO_eqv (PO_int rfl rfl rfl rfl trivial) rfl, _, fun hg20 => ⟨(.lit (.int .i64 2)), PO_eqI (PO_lenM rfl un28 rfl) rfl, (.lit (.bool true)), PO_eqv (PO_int rfl rfl rfl rfl trivial) rfl, rfl⟩, _, fun hg25 => ⟨L28, _, ⟨rfl, (by first | decide | omega), rfl⟩, T32, (.lit (.int .i64 1)), PO_eqI (PO_lenM rfl un32 rfl) rfl, (.lit (.bool true)), PO_eqv (PO_int rfl rfl rfl rfl trivial) rfl, rfl⟩, _, fun hg32 => ⟨L28, _, ⟨rfl, (by first | decide | omega), rfl⟩, T32, L32, _, ⟨rfl, (by first | decide | omega), rfl⟩, T3, (.lit (.bool true)), PO_eqv (PO_int rfl rfl rfl rfl trivial) rfl, rfl⟩, _, fun hg40 => ⟨L28, _, ⟨rfl, (by first | decide | omega), rfl⟩, T32, (.lit (.int .i64 1)), PO_eqI (PO_lenM rfl un32 rfl) rfl, (.lit (.bool true)), PO_eqv (PO_int rfl rfl rfl rfl trivial) rfl, rfl⟩, _, fun hg47 => ⟨L28, _, ⟨rfl, (by first | decide | omega), rfl⟩, T32, L32, _, ⟨rfl, (by first | decide | omega), rfl⟩, T3, (.lit (.bool true)), PO_eqv (PO_int rfl rfl rfl rfl trivial) rfl, rfl⟩, _, fun hg55 => ⟨(.lit (.bool true)), PO_eqv (PO_int rfl rfl rfl rfl trivial) rfl, rfl⟩, ?_⟩
  exact AW_ret (ret_le2 (.inl rfl) rfl rfl (.refl _))
end Go.AM.Tryd
end
section
set_option linter.unusedVariables false
set_option linter.unusedSimpArgs false
namespace Go.AM.Tryd
open Go Go.AM Go.AM.D
def mxF (v : Rule → Int) : List Rule → Int → Int
  | [], m => m
  | r :: l, m => mxF v l (if v r > m then v r else m)
def ixF (v : Rule → Int) (s : Int) : Int → List Rule → List Int
  | _, [] => []
  | i, r :: l => if v r = s then i :: ixF v s (i + 1) l else ixF v s (i + 1) l
theorem padL_len (o : List (List Int)) (k : Nat) : (padL o k).length = max o.length k := by
  rw [padL, List.length_append, List.length_replicate]; omega
theorem putL_len (o : List (List Int)) (k : Nat) (i : Int) : (putL o k i).length = max o.length k := by
  rw [putL, List.length_set, padL_len]
theorem padL_get (o : List (List Int)) (k s : Nat) : (padL o k).getD s [] = o.getD s [] := by
  simp only [padL, List.getD_eq_getElem?_getD]
  rcases Nat.lt_or_ge s o.length with c | c
  · rw [List.getElem?_append_left c]
  · rw [List.getElem?_append_right c, List.getElem?_replicate, List.getElem?_eq_none c]; split <;> rfl
theorem putL_get (o : List (List Int)) {k : Nat} (hk : 1 ≤ k) (i : Int) (s : Nat) : (putL o k i).getD s [] = o.getD s [] ++ if s + 1 = k then [i] else [] := by
  have hl : k - 1 < (padL o k).length := by rw [padL_len]; omega
  have hg := padL_get o k s
  rw [putL, List.getD_eq_getElem?_getD, List.getElem?_set]
  by_cases h : k - 1 = s
  · subst h
    rw [if_pos rfl, if_pos hl, if_pos (by omega), ← hg]; rfl
  · rw [if_neg h, if_neg (by omega), List.append_nil, ← List.getD_eq_getElem?_getD]; exact hg
theorem laysF_len (v : Rule → Int) : ∀ (l : List Rule) (i : Int) (o : List (List Int)), (∀ r ∈ l, 1 ≤ v r) → ((laysF v i l o).length : Int) = mxF v l o.length
  | [], i, o, h => rfl
  | r :: l, i, o, h => by
    have h1 := h r (List.mem_cons_self ..)
    rw [laysF, laysF_len v l (i + 1) _ (fun x hx => h x (List.mem_cons_of_mem _ hx)), mxF, putL_len]
    congr 1
    split <;> omega
theorem laysF_get (v : Rule → Int) (s : Nat) : ∀ (l : List Rule) (i : Int) (o : List (List Int)), (∀ r ∈ l, 1 ≤ v r) → (laysF v i l o).getD s [] = o.getD s [] ++ ixF v ((s + 1 : Nat) : Int) i l
  | [], i, o, h => by simp [laysF, ixF]
  | r :: l, i, o, h => by
    have h1 := h r (List.mem_cons_self ..)
    rw [laysF, laysF_get v s l (i + 1) _ (fun x hx => h x (List.mem_cons_of_mem _ hx)), putL_get o (by omega) i s, ixF, List.append_assoc]
    congr 1
    by_cases hc : v r = ((s + 1 : Nat) : Int)
    · rw [if_pos hc, if_pos (by omega)]; rfl
    · rw [if_neg hc, if_neg (by omega)]; rfl
theorem lay_len {l : List Rule} (hz : (findN l).2 = 0) : (((layU l).1.length : Nat) : Int) = mxF (stU l) l 0 := by
  rw [layU, if_neg (by simp [hz])]
  exact laysF_len (stU l) l 0 [] fun r hr => (stU_ok hz hr).1
theorem lay_get {l : List Rule} (hz : (findN l).2 = 0) {s : Nat} (hs : s < (layU l).1.length) : (layU l).1[s]? = some (ixF (stU l) ((s + 1 : Nat) : Int) 0 l) := by
  have h := laysF_get (stU l) s l 0 [] fun r hr => (stU_ok hz hr).1
  have e : layU l = (laysF (stU l) 0 l [], 0) := by rw [layU, if_neg (by simp [hz])]
  rw [e] at hs ⊢
  simp only [List.getD_eq_getElem?_getD, List.getElem?_eq_getElem hs, Option.getD_some] at h
  rw [List.getElem?_eq_getElem hs, h]
  simp
theorem lay_err (l : List Rule) : (layU l).2 = (findN l).2 := by
  rw [layU]; split
  · rfl
  · rename_i h; simp only [Decidable.not_not] at h; exact h.symm
theorem lay_none {l : List Rule} (h : (findN l).2 ≠ 0) : (layU l).1 = [] := by rw [layU, if_pos h]
theorem number_err (l : List Rule) (t : Term) : (numberU l t).2 = (findN l).2 := by
  rw [numberU]; split
  · rfl
  · rename_i h; simp only [Decidable.not_not] at h; split <;> exact h.symm
theorem number_none {l : List Rule} {t : Term} (h : (findN l).2 ≠ 0) : (numberU l t).1 = 0 := by rw [numberU, if_pos h]
theorem number_at {l : List Rule} {t : Term} (hz : (findN l).2 = 0) : (numberU l t).1 = if atF t (predF l []) 0 ≥ 0 then (findN l).1.getD (atF t (predF l []) 0).toNat 0 else 0 := by
  rw [numberU, if_neg (by simp [hz]), lookB, lookI]
  by_cases h : atF t (predF l []) 0 ≥ 0 <;> simp [h]
theorem number_st {l : List Rule} {r : Rule} (hz : (findN l).2 = 0) (hm : r ∈ l) (hv : r.head.b.var = ⟨#[]⟩) : (numberU l r.head.b.term).1 = stU l r := by
  rw [numberU, if_neg (by simp [hz]), if_pos (look_has hm hv), stU, if_pos hv]
theorem st_at {l : List Rule} {r : Rule} (hm : r ∈ l) (hv : r.head.b.var = ⟨#[]⟩) : 0 ≤ atF r.head.b.term (predF l []) 0 ∧ (atF r.head.b.term (predF l []) 0).toNat < (predF l []).length ∧ stU l r = (findN l).1.getD (atF r.head.b.term (predF l []) 0).toNat 0 := by
  have h := lookI_lt (predF_has (acc := []) hm hv)
  rw [stU, if_pos hv]
  refine ⟨by omega, by omega, by rw [h.2.2]⟩
theorem few_bods : ∀ {l : List Rule}, fewF l = true → bods l ≤ 20 * l.length
  | [], _ => by simp [bods]
  | r :: l, h => by
    rw [fewF] at h
    split at h
    · cases h
    · have := few_bods h
      simp only [bods, List.length_cons]; omega
theorem row_set {l : List Rule} {f : Rule → Int} {i : Nat} {r : Rule} (hr : l[i]? = some r) : ((l.take i).map f ++ List.replicate (l.length - i) 0).set i (f r) = (l.take (i + 1)).map f ++ List.replicate (l.length - (i + 1)) 0 := by
  obtain ⟨hi, rfl⟩ := List.getElem?_eq_some_iff.1 hr
  have h1 : ((l.take i).map f).length = i := by simp; omega
  rw [List.set_append_right _ _ (by omega), h1, Nat.sub_self, show l.length - i = (l.length - (i + 1)) + 1 by omega, List.replicate_succ, List.set_cons_zero, List.take_add_one, List.getElem?_eq_getElem hi]
  simp only [List.map_append, Option.toList_some, List.map_cons, List.map_nil, List.append_assoc, List.cons_append, List.nil_append]
theorem row_len {l : List Rule} {f : Rule → Int} {i : Nat} (h : i ≤ l.length) : ((l.take i).map f ++ List.replicate (l.length - i) 0).length = l.length := by simp; omega
theorem row_get {l : List Rule} {f : Rule → Int} {i : Nat} {r : Rule} (hr : l[i]? = some r) : (l.map f).getD i 0 = f r := by
  rw [List.getD_eq_getElem?_getD, List.getElem?_map, hr]; rfl
theorem drop_cons_get {α : Type} {l m : List α} {k : Nat} {x : α} (h : l.drop k = x :: m) : l[k]? = some x ∧ k < l.length ∧ l.drop (k + 1) = m := by
  have h1 : l[k]? = some x := by rw [← List.head?_drop, h]; rfl
  exact ⟨h1, (List.getElem?_eq_some_iff.1 h1).1, by rw [← List.tail_drop, h]; rfl⟩
theorem ixF_le (v : Rule → Int) (s : Int) : ∀ (l : List Rule) (i : Int), (ixF v s i l).length ≤ l.length
  | [], i => by simp [ixF]
  | r :: l, i => by
    rw [ixF]
    have := ixF_le v s l (i + 1)
    split
    · simp only [List.length_cons]; omega
    · simp only [List.length_cons]; omega
theorem mxF_le {v : Rule → Int} {B : Int} : ∀ {l : List Rule} {m : Int}, (∀ r ∈ l, v r ≤ B) → m ≤ B → mxF v l m ≤ B
  | [], m, _, h => h
  | r :: l, m, hv, h => by
    rw [mxF]
    refine mxF_le (fun x hx => hv x (List.mem_cons_of_mem _ hx)) ?_
    split
    · exact hv r (List.mem_cons_self ..)
    · exact h
theorem lay_le {l : List Rule} (hz : (findN l).2 = 0) : (layU l).1.length ≤ l.length := by
  have h1 := lay_len hz
  have h2 : mxF (stU l) l 0 ≤ l.length := mxF_le (fun r hr => (stU_ok hz hr).2) (by omega)
  omega
end Go.AM.Tryd
end
section
set_option maxRecDepth 100000
set_option maxHeartbeats 4000000
set_option linter.unusedVariables false
set_option linter.unusedSimpArgs false
namespace Go.AM.Tryd
open Go Go.AM Go.AM.D
theorem iget {l : List Int} {i : Int} (h : i.toNat < l.length) : (l.map eI64)[i.toNat]? = some (eI64 (l.getD i.toNat 0)) := by
  rw [List.getElem?_map, List.getD_eq_getElem?_getD, List.getElem?_eq_getElem h]; rfl
end Go.AM.Tryd
end
section
set_option linter.unusedVariables false
set_option linter.unusedSimpArgs false
namespace Go.AM.Tryd
open Go Go.AM Go.AM.D
def rNil : Rule := ⟨⟨s0, s0, s0⟩, []⟩
def rAt (l : List Rule) (i : Int) : Rule := l.getD i.toNat rNil
theorem rget {l : List Rule} {i : Int} (h : i.toNat < l.length) : (l.map eRule)[i.toNat]? = some (eRule (rAt l i)) := by
  rw [List.getElem?_map, rAt, List.getD_eq_getElem?_getD, List.getElem?_eq_getElem h]; rfl
theorem rAt_mem {l : List Rule} {i : Int} (h : i.toNat < l.length) : rAt l i ∈ l := by
  rw [rAt, List.getD_eq_getElem?_getD, List.getElem?_eq_getElem h]; exact List.getElem_mem h
def rotI (n : Nat) (y : Int) (i : Nat) : Int := (((i : Nat) : Int) + y.tmod (n : Int) + (n : Int)) % (n : Int)
def rotL (l : List Rule) (y : Int) : List Rule := (List.range l.length).map fun i => rAt l (rotI l.length y i)
theorem tmod_bd (y : Int) {n : Nat} (h : 0 < n) : -(n : Int) < y.tmod n ∧ y.tmod n < n := by
  have h1 := Int.tmod_lt_of_pos y (show (0 : Int) < n by omega)
  have h2 := Int.tmod_lt_of_pos (-y) (show (0 : Int) < n by omega)
  rw [Int.neg_tmod] at h2
  omega
theorem rotI_bd {n : Nat} (y : Int) (i : Nat) (h : 0 < n) : 0 ≤ rotI n y i ∧ rotI n y i < n := by
  unfold rotI
  exact ⟨Int.emod_nonneg _ (by omega), Int.emod_lt_of_pos _ (by omega)⟩
theorem rotL_len (l : List Rule) (y : Int) : (rotL l y).length = l.length := by simp [rotL]
theorem rotL_take {l : List Rule} {y : Int} {i : Nat} (h : i < l.length) : (rotL l y).take i ++ [rAt l (rotI l.length y i)] = (rotL l y).take (i + 1) := by
  have hg : (rotL l y)[i]? = some (rAt l (rotI l.length y i)) := by
    rw [rotL, List.getElem?_map, List.getElem?_range h]; rfl
  rw [List.take_add_one, hg]; rfl
theorem rotL_mem {l : List Rule} {y : Int} {r : Rule} (h : r ∈ rotL l y) : r ∈ l := by
  simp only [rotL, List.mem_map, List.mem_range] at h
  obtain ⟨i, hi, rfl⟩ := h
  have := rotI_bd (n := l.length) y i (by omega)
  exact rAt_mem (by omega)
theorem rotL_ok {l : List Rule} {y : Int} (h : okRs l) : okRs (rotL l y) := ⟨by rw [rotL_len]; exact h.1, fun r hr => h.2 r (rotL_mem hr)⟩
theorem few_mem : ∀ {l : List Rule}, fewF l = true → ∀ r ∈ l, r.body.length ≤ 20
  | x :: l, h, r, hr => by
    rw [fewF] at h
    split at h
    · cases h
    · rcases List.mem_cons.1 hr with rfl | hr
      · omega
      · exact few_mem h r hr
theorem bods_le : ∀ {l : List Rule}, (∀ r ∈ l, r.body.length ≤ 20) → bods l ≤ 20 * l.length
  | [], _ => by simp [bods]
  | r :: l, h => by
    have := bods_le (l := l) fun x hx => h x (List.mem_cons_of_mem _ hx)
    have := h r (List.mem_cons_self ..)
    simp only [bods, List.length_cons]; omega
end Go.AM.Tryd
end
section
set_option maxRecDepth 100000
set_option maxHeartbeats 4000000
set_option linter.unusedVariables false
set_option linter.unusedSimpArgs false
namespace Go.AM.Tryd
open Go Go.AM Go.AM.D
end Go.AM.Tryd
end
