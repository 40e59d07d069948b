/- A part of the proof: walks of the code and laws that they use (Np, Nq, W7, W8, Nr, W9, Ns, WA, W6, Nt, WB, Pg, Ph, Pi). Conditions: as each theorem names them. -/
import Derived.Test.YtdognapppnfpiaaGreatDoorC14
section
set_option linter.unusedVariables false
set_option linter.unusedSimpArgs false
namespace Go.AM.Tryd
open Go Go.AM Go.AM.D Go.Lib
theorem bl_cmp : ∀ a b : List UInt8, Op.bytesLess a b = decide (compareBytes a b < 0)
  | [], [] => rfl
  | _ :: _, [] => rfl
  | [], _ :: _ => rfl
  | a :: al, b :: bl => by
    simp only [Op.bytesLess, compareBytes, bl_cmp al bl]
    by_cases h1 : a < b
    · simp [h1]
    · by_cases h2 : b < a
      · have : ¬ a = b := fun e => by subst e; exact h1 h2
        simp [h1, h2, this]
      · have e : a = b := by
          rw [UInt8.lt_iff_toNat_lt] at h1 h2
          exact UInt8.toNat_inj.1 (by omega)
        subst e; simp [h1]
theorem cb_vals : ∀ a b : List UInt8, compareBytes a b = -1 ∨ compareBytes a b = 0 ∨ compareBytes a b = 1
  | [], [] => .inr (.inl rfl)
  | _ :: _, [] => .inr (.inr rfl)
  | [], _ :: _ => .inl rfl
  | a :: al, b :: bl => by
    simp only [compareBytes]
    split
    · exact .inl rfl
    · split
      · exact .inr (.inr rfl)
      · exact cb_vals al bl
theorem cmpB_less {a b : ByteArray} : Op.bytesLess a.toList b.toList = decide (cmpB a b < 0) := by
  rw [bl_cmp, Lib.toList_data, Lib.toList_data]; rfl
theorem cmpB_m1 {a b : ByteArray} (h : Op.bytesLess a.toList b.toList = true) : cmpB a b = -1 := by
  rw [cmpB_less] at h
  have := of_decide_eq_true h
  have h2 := cb_vals a.data.toList b.data.toList
  simp only [cmpB] at *; omega
theorem cmpB_0 {a b : ByteArray} (h : a = b) : cmpB a b = 0 := by subst h; exact cmpB_ok.self a
theorem cmpB_1 {a b : ByteArray} (h : (!(Op.bytesLess a.toList b.toList || decide (a = b))) = true) : cmpB a b = 1 := by
  rw [cmpB_less] at h
  simp only [Bool.not_eq_true', Bool.or_eq_false_iff, decide_eq_false_iff_not] at h
  have h3 : cmpB a b ≠ 0 := fun e => h.2 (cmpB_ok.zero _ _ e)
  have h2 := cb_vals a.data.toList b.data.toList
  have h4 : cmpB a b = compareBytes a.data.toList b.data.toList := rfl
  omega
theorem cmpB_00 {a b : ByteArray} (h1 : ¬ Op.bytesLess a.toList b.toList = true) (h : ¬ (!(Op.bytesLess a.toList b.toList || decide (a = b))) = true) : cmpB a b = 0 := by
  refine cmpB_0 ?_
  simp only [Bool.not_eq_true] at h1
  rw [h1] at h
  simpa using h
theorem cmpT_1 {a b : Term} (h : a.kind < b.kind) : cmpT a b = -1 := by simp [cmpT, orF, cmpK, h]
theorem cmpT_2 {a b : Term} (h1 : ¬ a.kind < b.kind) (h : a.kind > b.kind) : cmpT a b = 1 := by
  have h2 : b.kind < a.kind := h
  simp [cmpT, orF, cmpK, h1, h2]
theorem cmpT_3 {a b : Term} (h1 : ¬ a.kind < b.kind) (h2 : ¬ a.kind > b.kind) (h : cmpB a.text b.text ≠ 0) : cmpT a b = cmpB a.text b.text := by
  have h3 : ¬ b.kind < a.kind := h2
  simp [cmpT, orF, cmpK, h1, h3, h]
theorem cmpT_4 {a b : Term} (h1 : ¬ a.kind < b.kind) (h2 : ¬ a.kind > b.kind) (h : ¬ cmpB a.text b.text ≠ 0) : cmpT a b = cmpB a.extra b.extra := by
  have h3 : ¬ b.kind < a.kind := h2
  have h4 : cmpB a.text b.text = 0 := Decidable.not_not.1 h
  simp only [cmpT, orF, cmpK, h1, h3, h4, if_false, ne_eq, not_true_eq_false]
  split <;> omega
end Go.AM.Tryd
end
section
set_option linter.unusedVariables false
set_option linter.unusedSimpArgs false
namespace Go.AM.Tryd
open Go Go.AM Go.AM.D
theorem nodup_len {α : Type} [DecidableEq α] : ∀ (l m : List α), l.Nodup → (∀ x ∈ l, x ∈ m) → l.length ≤ m.length
  | [], _, _, _ => Nat.zero_le _
  | x :: l, m, hn, h => by
    rw [List.nodup_cons] at hn
    have hx := h x (List.mem_cons_self ..)
    have ih := nodup_len l (m.erase x) hn.2 (fun y hy => by
      have hne : y ≠ x := fun e => hn.1 (e ▸ hy)
      exact (List.mem_erase_of_ne hne).2 (h y (List.mem_cons_of_mem _ hy)))
    rw [List.length_erase_of_mem hx] at ih
    have := List.length_pos_of_mem hx
    simp only [List.length_cons]; omega
def EdgeT (l : List Rule) (ns : List Term) (x n : Term) : Prop := n ∈ ns ∧ hangF x n false l = true
abbrev TGT (l : List Rule) (ns : List Term) (a b : Term) : Prop := Relation.TransGen (EdgeT l ns) a b
open Classical in
noncomputable def reachB (l : List Rule) (ns : List Term) (a b : Term) : Bool := decide (TGT l ns a b)
theorem reachB_iff {l : List Rule} {ns : List Term} {a b : Term} : reachB l ns a b = true ↔ TGT l ns a b := by simp [reachB]
structure RS (l : List Rule) (ns : List Term) (a b : Term) (i : Nat) (seen : List Term) : Prop where
  nd : seen.Nodup
  sub : ∀ x ∈ seen, x = a ∨ (x ∈ ns ∧ TGT l ns a x)
  clo : ∀ (k : Nat) x, k < i → seen[k]? = some x → ∀ n ∈ ns, hangF x n false l = true → n ≠ b ∧ n ∈ seen
  mem : a ∈ seen
section
variable {l : List Rule} {ns : List Term} {a b : Term} {i : Nat} {seen : List Term}
theorem RS.start (l : List Rule) (ns : List Term) (a b : Term) : RS l ns a b 0 [a] := ⟨by simp, fun x hx => .inl (by simpa using hx), fun k x hk => absurd hk (by omega), by simp⟩
theorem RS.len (h : RS l ns a b i seen) : seen.length ≤ ns.length + 1 :=
  nodup_len seen (a :: ns) h.nd fun x hx => by
    rcases h.sub x hx with rfl | ⟨h1, _⟩
    · exact List.mem_cons_self ..
    · exact List.mem_cons_of_mem _ h1
theorem RS.edge (h : RS l ns a b i seen) {x n : Term} (hx : x ∈ seen) (hn : n ∈ ns) (he : hangF x n false l = true) : TGT l ns a n := by
  rcases h.sub x hx with rfl | ⟨_, h1⟩
  · exact .single ⟨hn, he⟩
  · exact h1.tail ⟨hn, he⟩
theorem RS.app (h : RS l ns a b i seen) (hi : i ≤ seen.length) {x n : Term} (hx : x ∈ seen) (hn : n ∈ ns) (he : hangF x n false l = true) (hs : n ∉ seen) : RS l ns a b i (seen ++ [n]) := by
  refine ⟨?_, fun y hy => ?_, fun k y hk hy z hz hq => ?_, List.mem_append_left _ h.mem⟩
  · rw [List.nodup_append]
    refine ⟨h.nd, by simp, fun y hy z hz => ?_⟩
    rw [List.mem_singleton] at hz; subst hz
    exact fun e => hs (e ▸ hy)
  · rcases List.mem_append.1 hy with hy | hy
    · exact h.sub y hy
    · rw [List.mem_singleton] at hy; subst hy
      exact .inr ⟨hn, h.edge hx hn he⟩
  · rw [List.getElem?_append_left (by omega)] at hy
    obtain ⟨h1, h2⟩ := h.clo k y hk hy z hz hq
    exact ⟨h1, List.mem_append_left _ h2⟩
theorem RS.step (h : RS l ns a b i seen) {x : Term} (hx : seen[i]? = some x) (hc : ∀ n ∈ ns, hangF x n false l = true → n ≠ b ∧ n ∈ seen) : RS l ns a b (i + 1) seen := by
  refine ⟨h.nd, h.sub, fun k y hk hy => ?_, h.mem⟩
  by_cases e : k = i
  · subst e; rw [hx] at hy; cases hy; exact hc
  · exact h.clo k y (by omega) hy
theorem RS.no (h : RS l ns a b i seen) (hi : seen.length ≤ i) : reachB l ns a b = false := by
  have key : ∀ y, TGT l ns a y → y ≠ b ∧ y ∈ seen := fun y hy => by
    have cl : ∀ x ∈ seen, ∀ n ∈ ns, hangF x n false l = true → n ≠ b ∧ n ∈ seen := fun x hx => by
      obtain ⟨k, hk⟩ := List.mem_iff_getElem?.1 hx
      exact h.clo k x (by have := (List.getElem?_eq_some_iff.1 hk).1; omega) hk
    induction hy with
    | single e => exact cl _ h.mem _ e.1 e.2
    | tail _ e ih => exact cl _ ih.2 _ e.1 e.2
  cases hr : reachB l ns a b with
  | false => rfl
  | true => exact absurd rfl (key b (reachB_iff.1 hr)).1
theorem RS.yes (h : RS l ns a b i seen) {x : Term} (hx : x ∈ seen) (hn : b ∈ ns) (he : hangF x b false l = true) : reachB l ns a b = true := reachB_iff.2 (h.edge hx hn he)
theorem not_atF {t : Term} {l : List Term} (h : atF t l 0 < 0) : t ∉ l := fun hm => by
  have := atF_mem hm
  have := atF_ge t l 0
  omega
theorem is_atF {t : Term} {l : List Term} (h : ¬ atF t l 0 < 0) : t ∈ l := List.mem_of_getElem? (atF_at (t := t) (l := l) (i := 0) (by omega) (by omega))
theorem take_all {ns : List Term} {j : Nat} {n : Term} (hn : ns[j]? = some n) {p : Term → Prop} (h : ∀ x ∈ ns.take j, p x) (h2 : p n) : ∀ x ∈ ns.take (j + 1), p x := by
  rw [List.take_add_one, hn]
  intro x hx
  rcases List.mem_append.1 hx with hx | hx
  · exact h x hx
  · simp at hx; subst hx; exact h2
end
end Go.AM.Tryd
end
section
set_option maxRecDepth 100000
set_option maxHeartbeats 4000000
set_option linter.unusedVariables false
set_option linter.unusedSimpArgs false
namespace Go.AM.Tryd
open Go Go.AM Go.AM.D
theorem texts_ (a b : ByteArray) : PFn PR (.fn (.func 64) [] []) [.lit (.string a), .lit (.string b)] (.lit (.int .i64 (cmpB a b))) := by
  refine PFn_of Go.Proofs.Tryz.func64 rfl (by rfl) Go.Proofs.Tryz.ntmps64 rfl (by simp) fun h => ?_
  refine AW_x [] [] ?_
  refine ⟨fun hc1 => ?_, fun hc1 => ?_⟩
  · skip
    exact AW_ret (ret_le2 (.inl rfl) rfl (by rw [cmpB_m1 hc1]) (.refl _))
  · skip
    refine ⟨fun hc3 => ?_, fun hc3 => ?_⟩
    · skip
      exact AW_ret (ret_le2 (.inl rfl) rfl (by rw [cmpB_1 hc3]) (.refl _))
    · skip
      exact AW_ret (ret_le2 (.inl rfl) rfl (by rw [cmpB_00 (by simpa using hc1) (by simpa using hc3)]) (.refl _))
theorem compareR_ (a b : Term) : PFn PR (.fn (.func 41) [] []) [.agg (eTerm a), .agg (eTerm b)] (.lit (.int .i64 (cmpT a b))) := by
  refine PFn_of Go.Proofs.Tryz.func41 rfl (by rfl) Go.Proofs.Tryz.ntmps41 rfl (by simp) fun h => ?_
  refine AW_x [] [] ?_
  refine ⟨F25_0, T23, F25_0, T23, brD (fun hc1 => ?_) (fun hc1 => ?_)⟩
  · skip
    exact AW_ret (ret_le2 (.inl rfl) rfl (by rw [cmpT_1 hc1]) (.refl _))
  · skip
    refine ⟨F25_0, T23, F25_0, T23, brD (fun hc3 => ?_) (fun hc3 => ?_)⟩
    · skip
      exact AW_ret (ret_le2 (.inl rfl) rfl (by rw [cmpT_2 hc1 hc3]) (.refl _))
    · skip
      refine ⟨F25_1, T9, F25_1, T9, _, (texts_ _ _), brD (fun hc6 => ?_) (fun hc6 => ?_)⟩
      · skip
        exact AW_ret (ret_le2 (.inl rfl) rfl (by rw [cmpT_3 hc1 hc3 hc6]) (.refl _))
      · skip
        refine ⟨F25_2, T9, F25_2, T9, _, (texts_ _ _), ?_⟩
        exact AW_ret (ret_le2 (.inl rfl) rfl (by rw [cmpT_4 hc1 hc3 hc6]) (.refl _))
theorem lessR_ (a b : Term) : PFn PR (.fn (.func 23) [] []) [.agg (eTerm a), .agg (eTerm b)] (.lit (.bool (lessT a b))) := by
  refine PFn_of Go.Proofs.Tryz.func23 rfl (by rfl) Go.Proofs.Tryz.ntmps23 rfl (by simp) fun h => ?_
  refine AW_x [] [] ?_
  refine ⟨T25, T25, _, (compareR_ _ _), ?_⟩
  exact AW_ret (ret_le2 (.inl rfl) rfl rfl (.refl _))
end Go.AM.Tryd
end
section
set_option maxRecDepth 100000
set_option maxHeartbeats 4000000
set_option linter.unusedVariables false
set_option linter.unusedSimpArgs false
namespace Go.AM.Tryd
open Go Go.AM Go.AM.D
theorem reaches_ (l : List Rule) (ns : List Term) (a b : Term) (hl : okRs l) (hns : ns.length ≤ 1048576) : PFn PR (.fn (.func 25) [] []) [.sl .any 13 (l.map eRule), .sl .any 3 (ns.map eTerm), .agg (eTerm a), .agg (eTerm b)] (.lit (.bool (reachB l ns a b))) := by
  have hl1 := hl.1
  refine PFn_of Go.Proofs.Tryz.func25 rfl (by rfl) Go.Proofs.Tryz.ntmps25 rfl (by simp) fun h => ?_
  refine AW_x [] [] ?_
  refine ⟨T25, (.sl .full 3 ([a].map eTerm)), PO_buildSlice (n := 1) (S := 3) (rs := eTerm a ++ []) rfl un37 ty25 z25 rfl rfl rfl (by decide) rfl (by decide), ?_⟩
  refine AW_it [] [] [(0, _), (1, _), (7, _), (8, _)] (fun (z_ : Nat × List Term × Own × Heap) => match z_ with | (i, seen, own, hp) => [(10, .lit (.int .i64 ((i : Nat) : Int))), (9, .sl own 3 (seen.map eTerm))]) (fun (z_ : Nat × List Term × Own × Heap) => match z_ with | (i, seen, own, hp) => hp) (fun (z_ : Nat × List Term × Own × Heap) => match z_ with | (i, seen, own, hp) => i ≤ seen.length ∧ RS l ns a b i seen ∧ Grow h 3 seen.length own hp) (fun (z_ : Nat × List Term × Own × Heap) => match z_ with | (i, seen, own, hp) => ns.length + 1 - i) ((0, [a], .full, h)) ⟨rfl, rfl, rfl, rfl, trivial⟩ ⟨rfl, rfl, trivial⟩ rfl (⟨by simp, RS.start _ _ _ _, Grow.full _ _ _⟩) ?_
  rintro ⟨i, seen, own, hp⟩ ⟨hIi, hR, hG⟩
  have hsl := hR.len
  refine ⟨L37, _, lm, brD (fun hc3 => ?_) (fun hc3 => ?_)⟩
  · skip
    obtain ⟨x, hx, -, hxm⟩ := drop_at (l := seen) (i := i) (by omega)
    refine AW_it [] [] [(10, _), (0, _), (1, _), (7, _), (8, _)] (fun (z_ : Nat × List Term × Own × Heap) => match z_ with | (j, seen2, ownb, hp2) => [(11, .lit (.int .i64 ((j : Nat) : Int))), (9, .sl ownb 3 (seen2.map eTerm))]) (fun (z_ : Nat × List Term × Own × Heap) => match z_ with | (j, seen2, ownb, hp2) => hp2) (fun (z_ : Nat × List Term × Own × Heap) => match z_ with | (j, seen2, ownb, hp2) => j ≤ ns.length ∧ (∃ m, seen2 = seen ++ m) ∧ RS l ns a b i seen2 ∧ (∀ n ∈ ns.take j, hangF x n false l = true → n ≠ b ∧ n ∈ seen2) ∧ Grow h 3 seen2.length ownb hp2) (fun (z_ : Nat × List Term × Own × Heap) => match z_ with | (j, seen2, ownb, hp2) => ns.length - j) ((0, seen, own, hp)) ⟨rfl, rfl, rfl, rfl, rfl, trivial⟩ ⟨rfl, rfl, trivial⟩ rfl (⟨by omega, ⟨[], by simp⟩, hR, by simp, hG⟩) ?_
    rintro ⟨j, seen2, ownb, hp2⟩ ⟨hIj, ⟨m, hm⟩, hR2, hcl, hGb⟩
    have hsl2 := hR2.len
    have hx2 : seen2[i]? = some x := by rw [hm, List.getElem?_append_left (by omega)]; exact hx
    have hxm2 := List.mem_of_getElem? hx2
    have hil := (List.getElem?_eq_some_iff.1 hx2).1
    refine ⟨L37, _, lm, brD (fun hc6 => ?_) (fun hc6 => ?_)⟩
    · skip
      obtain ⟨n, hn, -, hnm⟩ := drop_at (l := ns) (i := j) (by omega)
      refine ⟨⟨hmixed, by kernel_rfl⟩, L37, _, ⟨rfl, (by first | decide | omega), (mget hx2)⟩, T25, L37, _, ⟨rfl, (by first | decide | omega), (mget hn)⟩, T25, _, (hang_ _ _ _ _ (by assumption)), fun hc8 => ?_, fun hc8 => ?_⟩
      · skip
        have hng : hangF x n false l = false := by simpa using hc8
        refine ⟨_, f1 (by first | omega | (simp_all <;> omega)), ?_⟩
        exact ⟨(j + 1, seen2, ownb, hp2), ⟨by omega, ⟨m, hm⟩, hR2, take_all hn hcl (fun e => by rw [hng] at e; cases e), hGb⟩, by simp only []; omega, ⟨rfl, ⟨rfl, rfl, rfl, rfl, rfl, rfl, rfl, trivial⟩, rfl, rfl, rfl⟩⟩
      · skip
        have hgt : hangF x n false l = true := by simpa using hc8
        refine ⟨⟨hmixed, by kernel_rfl⟩, L37, _, ⟨rfl, (by first | decide | omega), (mget hn)⟩, T25, T25, _, q25 n b, brD (fun hc9 => ?_) (fun hc9 => ?_)⟩
        · skip
          subst hc9
          exact AW_ret (ret_le2 (.inl rfl) rfl (by rw [hR2.yes hxm2 hnm hgt]) hGb.le)
        · skip
          refine ⟨L37, _, ⟨rfl, (by first | decide | omega), (mget hn)⟩, T25, _, (at_ _ _ _ (by first | assumption | omega)), brD (fun hc11 => ?_) (fun hc11 => ?_)⟩
          · skip
            refine ⟨L37, _, ⟨rfl, (by first | decide | omega), (mget hn)⟩, T25, (.sl .full 3 ([n].map eTerm)), PO_buildSlice (n := 1) (S := 3) (rs := eTerm n ++ []) rfl un37 ty25 z25 rfl rfl rfl (by decide) rfl (by decide), ?_⟩
            refine AL_m rfl rfl rfl (MO_grow (acc := seen2) (f := eTerm) rfl un37 un37 ty25 z25 rfl by25 rfl rfl (.inl rfl) (by first | omega | simp) hGb (by simp; omega) (by simp; omega)) ?_
            rintro _ h1 ⟨own1, rfl, hG1⟩
            refine AL_x [] [] 7 ?_
            refine ⟨_, f1 (by first | omega | (simp_all <;> omega)), ?_⟩
            exact ⟨(j + 1, seen2 ++ [n], own1, h1), ⟨by omega, ⟨m ++ [n], by rw [hm, List.append_assoc]⟩, hR2.app (by omega) hxm2 hnm hgt (not_atF hc11), take_all hn (fun y hy hq => ⟨(hcl y hy hq).1, List.mem_append_left _ (hcl y hy hq).2⟩) (fun _ => ⟨hc9, by simp⟩), hG1⟩, by simp only []; omega, ⟨rfl, ⟨rfl, rfl, rfl, rfl, rfl, rfl, rfl, trivial⟩, rfl, rfl, rfl⟩⟩
          · skip
            refine ⟨_, f1 (by first | omega | (simp_all <;> omega)), ?_⟩
            exact ⟨(j + 1, seen2, ownb, hp2), ⟨by omega, ⟨m, hm⟩, hR2, take_all hn hcl (fun _ => ⟨hc9, is_atF hc11⟩), hGb⟩, by simp only []; omega, ⟨rfl, ⟨rfl, rfl, rfl, rfl, rfl, rfl, rfl, trivial⟩, rfl, rfl, rfl⟩⟩
    · skip
      rw [List.take_of_length_le (by omega)] at hcl
      refine ⟨_, f1 (by first | omega | (simp_all <;> omega)), ?_⟩
      exact ⟨(i + 1, seen2, ownb, hp2), ⟨by omega, hR2.step hx2 hcl, hGb⟩, by simp only []; omega, ⟨rfl, ⟨rfl, rfl, rfl, rfl, rfl, rfl, trivial⟩, rfl, rfl, rfl⟩⟩
  · skip
    exact AW_ret (ret_le2 (.inl rfl) rfl (by rw [hR.no (by omega)]) hG.le)
end Go.AM.Tryd
end
section
set_option maxRecDepth 100000
set_option linter.unusedVariables false
set_option linter.unusedSimpArgs false
namespace Go.AM.Tryd
open Go Go.AM Go.AM.D Go.RowKit
def tcs (ts : List Term) : List AV := (ts.map eTerm).flatten
theorem tcs_len (ts : List Term) : (tcs ts).length = ts.length * 3 := by
  rw [tcs, flat_length (S := 3) (fun e he => by
    obtain ⟨q, _, rfl⟩ := List.mem_map.1 he; rfl), List.length_map]
theorem tcs_app (a b : List Term) : tcs (a ++ b) = tcs a ++ tcs b := by simp [tcs]
theorem tcs_split {ts : List Term} {i : Nat} {t : Term} (h : ts[i]? = some t) : tcs ts = tcs (ts.take i) ++ (eTerm t ++ tcs (ts.drop (i + 1))) := by
  obtain ⟨hi, e⟩ := List.getElem?_eq_some_iff.1 h
  have h1 : ts = ts.take i ++ (t :: ts.drop (i + 1)) := by rw [← e, ← List.drop_eq_getElem_cons hi, List.take_append_drop]
  have h2 := congrArg tcs h1
  rw [tcs_app] at h2
  rw [h2]; rfl
theorem tcs_drop {ts : List Term} {i : Nat} {t : Term} {rest : List AV} (h : ts[i]? = some t) : (tcs ts ++ rest).drop (i * 3) = eTerm t ++ (tcs (ts.drop (i + 1)) ++ rest) := by
  have hi := (List.getElem?_eq_some_iff.1 h).1
  rw [tcs_split h, List.append_assoc, List.drop_left' (by rw [tcs_len, List.length_take]; omega), List.append_assoc]
theorem tcs_load {fs : Array Field} {ts : List Term} {i : Nat} {t : Term} {rest : List AV} (h : ts[i]? = some t) : loaded (.struct fs) 3 ((tcs ts ++ rest).drop (i * 3)) = some (.agg (eTerm t)) := by
  rw [tcs_drop h]; rfl
theorem tcs_set {ts : List Term} {i : Nat} {t : Term} {rest : List AV} (hi : i < ts.length) : setCells (tcs ts ++ rest) (i * 3) (eTerm t) = tcs (ts.set i t) ++ rest := by
  have h : ts[i]? = some ts[i] := List.getElem?_eq_getElem hi
  have h2 : (ts.set i t)[i]? = some t := by rw [List.getElem?_set, if_pos rfl, if_pos hi]
  have hl : (tcs (ts.take i)).length = i * 3 := by rw [tcs_len, List.length_take]; omega
  rw [tcs_split h2, tcs_split h, List.take_set_of_le (Nat.le_refl _), List.drop_set_of_lt (Nat.lt_succ_self _)]
  simp only [setCells, List.append_assoc]
  rw [List.take_left' hl, List.drop_append, List.drop_of_length_le (by rw [hl]; simp [eTerm]), hl, show i * 3 + (eTerm t).length - i * 3 = 3 by simp [eTerm]]
  simp [eTerm]
def TRow (h hp : Heap) (v : AV) (ts : List Term) : Prop := (v = .sl .nil 3 [] ∧ ts = [] ∧ h.le hp) ∨ ∃ b cap rest, v = .ms b 0 3 ts.length cap ∧ ts.length ≤ cap ∧ (tcs ts ++ rest).length = cap * 3 ∧ Sep h hp [(b, .row (tcs ts ++ rest))]
section
variable {P : Program} {ρ : Option Nat} {Q : Exit → AS → Prop} {σ : AS} {o : Oper} {ops : Array Oper} {l : List Oper} {n d : Nat} {tm : List (Nat × AV)} {h hp h0 : Heap} {ms : List Nat} {v : AV} {ts : List Term}
theorem TRow.start (h : Heap) : TRow h h (.sl .nil 3 []) [] := .inl ⟨rfl, rfl, .refl _⟩
theorem TRow.le (k : TRow h hp v ts) : h.le hp := by
  rcases k with ⟨_, _, k⟩ | ⟨_, _, _, _, _, _, k⟩
  · exact k
  · exact k.le
theorem TRow.len (k : TRow h hp v ts) {x : Operand} {t e : TypeId} (ho : o.op = .call { callee := .builtin .len, args := #[x], argTypes := #[t] }) (ht : P.underlying t = some (.slice e)) (hx : ev σ.tm x = some v) : PO P ρ o σ (.lit (.int .i64 (ts.length : Nat))) := by
  rcases k with ⟨rfl, rfl, -⟩ | ⟨b, cap, rest, rfl, -⟩
  · exact PO_len ho ht hx
  · exact PO_len_ms ho ht hx
theorem TRow.own (k : TRow h hp v ts) (hl : 0 < ts.length) : ∃ b cap rest, v = .ms b 0 3 ts.length cap ∧ ts.length ≤ cap ∧ (tcs ts ++ rest).length = cap * 3 ∧ Sep h hp [(b, .row (tcs ts ++ rest))] := by
  rcases k with ⟨_, rfl, _⟩ | k
  · simp at hl
  · exact k
theorem MO_appT3 {s x : Operand} {t tx e e' : TypeId} {bytes : Nat} {own' : Own} {y : Term} {fs : TypeDesc} {zs : List AV} (ho : o.op = .call { callee := .builtin .append, args := #[s, x], argTypes := #[t, tx] })
    (ht : P.underlying t = some (.slice e)) (htx : P.underlying tx = some (.slice e')) (he : TyF P e fs 3) (hz : ZeroF P e zs) (hzl : zs.length = 3) (hb : (P.info? e).map (·.bytes) = some bytes)
    (hse : ev σ.tm s = some v) (hxe : ev σ.tm x = some (.sl own' 3 [eTerm y])) (hO : TRow h0 σ.h v ts) (hlim : (ts.length + 1) * bytes ≤ 140737488355328) (h63 : ts.length + 1 ≤ 9223372036854775807) :
    MO P ρ o σ (fun u h' => TRow h0 h' u (ts ++ [y])) := by
  intro g I a w hs
  have hy1 : tcs [y] = eTerm y := by simp [tcs]
  rcases hO with ⟨rfl, rfl, hle⟩ | ⟨b, cap, rest, rfl, hcap, hlen, hS⟩
  · have hex : σ.h w.heap.size = none := h_new hs
    refine wpIn_oper_mono (MO_append_ms (ρ := ρ) (σ := σ) (b := w.heap.size) (k := 0) (cap := 0) (cs := []) (xs := [eTerm y]) ho ht htx he hz hzl hb (.inr ⟨3, hse, rfl, rfl, rfl, hex⟩) hxe (by simp) (by simpa using hlim) (by simp) g I a w hs) ?_ fun _ _ _ h => h
    rintro a' w' ⟨I', u, u', h', k1, k2, k3, k4, b', cap', rest, rfl, hb', rfl, hc, hlen, hrest⟩
    have hb'' : σ.h b' = none := by rcases hb' with h | rfl; exact h; exact hex
    have hrow : ([] : List AV).take (0 * 3) ++ [eTerm y].flatten ++ rest = tcs ([] ++ [y]) ++ rest := by simp [tcs]
    rw [hrow] at k4 hlen
    refine ⟨I', u, _, _, k1, k2, k3, k4, .inr ⟨b', cap', rest, rfl, by simpa using hc, hlen, ?_⟩⟩
    have : σ.h.upd w.heap.size none = σ.h := by
      funext q; simp only [Heap.upd]; split
      · rename_i e; rw [e, hex]
      · rfl
    rw [this]
    exact Sep.ins (L1 := []) (L2 := []) ⟨by simp, (fun p hp => by cases hp), hle⟩ hb''
  · have hrow := hS.get 0 (b := b) rfl
    refine wpIn_oper_mono (MO_append_ms (ρ := ρ) (σ := σ) (b := b) (k := ts.length) (cap := cap) (cs := tcs ts ++ rest) (xs := [eTerm y]) ho ht htx he hz hzl hb (.inl ⟨hse, hrow, hlen, hcap⟩) hxe (by simp) (by simpa using hlim) (by simpa using h63) g I a w hs) ?_ fun _ _ _ h => h
    rintro a' w' ⟨I', u, u', h', k1, k2, k3, k4, b', cap', rest', rfl, hb', rfl, hc, hlen', hrest⟩
    have hrow' : (tcs ts ++ rest).take (ts.length * 3) ++ [eTerm y].flatten ++ rest' = tcs (ts ++ [y]) ++ rest' := by
      rw [List.take_left' (tcs_len ts), tcs_app, hy1]; simp
    rw [hrow'] at k4 hlen'
    refine ⟨I', u, _, _, k1, k2, k3, k4, .inr ⟨b', cap', rest', by simp, by simpa using hc, hlen', ?_⟩⟩
    exact hS.re (b' := b') (o' := .row (tcs (ts ++ [y]) ++ rest')) 0 (b := b) rfl hb'
theorem PO_ixT {x ix : Operand} {t e : TypeId} {b len cap : Nat} {k : IntKind} {i : Nat} {dd : TypeDesc} (ho : o.op = .indexAddr t x ix) (ht : P.underlying t = some (.slice e)) (he : TyF P e dd 3)
    (hx : ev σ.tm x = some (.ms b 0 3 len cap)) (hi : ev σ.tm ix = some (.lit (.int k ((i : Nat) : Int)))) (h1 : i < len) : PO P ρ o σ (.ptr b (i * 3)) := by
  have := PO_indexAddr_ms (ρ := ρ) ho ht he hx hi (by omega) (by omega)
  rwa [Nat.zero_add, Int.toNat_natCast] at this
theorem MO_stT {x y : Operand} {t : TypeId} {dd : TypeDesc} {b i : Nat} {rest : List AV} {u : Term} (ho : o.op = .store t x y) (ht : TyF P t dd 3) (hx : ev σ.tm x = some (.ptr b (i * 3))) (hy : ev σ.tm y = some (.agg (eTerm u))) (hS : Sep h0 σ.h [(b, .row (tcs ts ++ rest))]) (hi : i < ts.length) :
    MO P ρ o σ (fun u' h' => u' = .junk ∧ Sep h0 h' [(b, .row (tcs (ts.set i u) ++ rest))]) :=
  MO_heap (MO_store ho ht hx hy (hS.get 0 rfl) rfl rfl (by rw [List.length_append, tcs_len]; omega)) fun v h' ⟨e1, e2⟩ => ⟨e1, by
    rw [e2, show acells (.agg (eTerm u)) = eTerm u from rfl, tcs_set hi]; exact hS.set 0 rfl⟩
theorem AW_frzT {c : Code} {k : Nat} (hk : look tm k = some v) (hT : TRow h0 h v ts) (kk : ∀ h', h0.le h' → AW P ρ c Q ⟨n, (k, .sl .any 3 (ts.map eTerm)) :: tm, h', ms, h0⟩) : AW P ρ c Q ⟨n, tm, h, ms, h0⟩ := by
  rcases hT with ⟨rfl, rfl, hle⟩ | ⟨b, cap, rest, rfl, hcap, hlen, hS⟩
  · refine AW_ghost (ghost_weak (u := .sl .any 3 []) hk fun I x hx => ?_) (kk h hle)
    cases hx with
    | slnil => exact .slnil _ _ (.inr rfl)
    | sl _ _ _ ad cap u ho' _ _ _ _ => exact ho'.2.2.elim
  · refine AW_ghost (ghost_ms (es := ts.map eTerm) hk (hS.get 0 rfl) (by simp) (fun e he => by obtain ⟨x, _, rfl⟩ := List.mem_map.1 he; rfl) (fun i e j a h1 h2 => ?_) hcap) (kk _ (Sep.del hS).le)
    rw [List.getElem?_map, Option.map_eq_some_iff] at h1
    obtain ⟨x, hx, rfl⟩ := h1
    have h3 := congrArg (fun z => z[j]?) (tcs_drop (rest := rest) hx)
    simp only [List.getElem?_drop] at h3
    rw [Nat.zero_add, h3, List.getElem?_append_left (List.getElem?_eq_some_iff.1 h2).1]
    exact h2
end
def SortedTo (i : Nat) (ts : List Term) : Prop := ∀ (p q : Nat) (a b : Term), p < i → p < q → ts[p]? = some a → ts[q]? = some b → lessT b a = false
theorem lessT_iff (a b : Term) : lessT a b = true ↔ cmpT a b < 0 := by simp [lessT]
theorem lessT_asym {a b : Term} (h : lessT a b = true) : lessT b a = false := by
  rw [lessT_iff] at h
  have := cmpT_ok.sym a b
  simp [lessT]; omega
theorem lessT_ntrans {a b c : Term} (h : lessT b a = false) (k : lessT c b = false) : lessT c a = false := by
  simp only [lessT, decide_eq_false_iff_not, Int.not_lt] at *
  by_cases e : cmpT b a = 0
  · rw [← cmpT_ok.zero _ _ e]; exact k
  · by_cases e2 : cmpT c b = 0
    · rw [cmpT_ok.zero _ _ e2]; exact h
    · have h1 := cmpT_ok.sym b a; have h2 := cmpT_ok.sym c b; have h3 := cmpT_ok.sym c a
      have := cmpT_ok.trans a b c (by omega) (by omega)
      omega
def swapT (ts : List Term) (i j : Nat) (x y : Term) : List Term := (ts.set i y).set j x
theorem swapT_len (ts : List Term) (i j : Nat) (x y : Term) : (swapT ts i j x y).length = ts.length := by simp [swapT]
theorem swapT_perm {ts : List Term} {i j : Nat} {x y : Term} (hij : i < j) (hx : ts[i]? = some x) (hy : ts[j]? = some y) : (swapT ts i j x y).Perm ts := by
  obtain ⟨hi, ex⟩ := List.getElem?_eq_some_iff.1 hx
  obtain ⟨hj, ey⟩ := List.getElem?_eq_some_iff.1 hy
  have h1 : ts = ts.take i ++ (x :: ts.drop (i + 1)) := by rw [← ex, ← List.drop_eq_getElem_cons hi, List.take_append_drop]
  have hy2 : (ts.drop (i + 1))[j - (i + 1)]? = some y := by rw [List.getElem?_drop, show i + 1 + (j - (i + 1)) = j by omega]; exact hy
  generalize hA : ts.take i = A at h1
  generalize hB : ts.drop (i + 1) = B at h1 hy2
  have hAl : A.length = i := by rw [← hA, List.length_take]; omega
  have h2 : swapT ts i j x y = A ++ (y :: B.set (j - (i + 1)) x) := by
    rw [swapT, h1, List.set_append_right _ _ (by omega), hAl, Nat.sub_self, List.set_cons_zero, List.set_append_right _ _ (by omega), hAl, show j - i = (j - (i + 1)) + 1 by omega, List.set_cons_succ]
  rw [h2, h1]
  refine List.Perm.append_left A ?_
  obtain ⟨hk, ek⟩ := List.getElem?_eq_some_iff.1 hy2
  generalize j - (i + 1) = k at *
  have h3 : B = B.take k ++ (y :: B.drop (k + 1)) := by rw [← ek, ← List.drop_eq_getElem_cons hk, List.take_append_drop]
  have h4 : B.set k x = B.take k ++ (x :: B.drop (k + 1)) := by rw [List.set_eq_take_append_cons_drop, if_pos hk]
  rw [h4]
  conv => rhs; rw [h3]
  exact ((List.perm_middle (a := x)).cons y).trans ((List.Perm.swap x y _).trans ((List.perm_middle (a := y)).symm.cons x))
theorem swapT_get {ts : List Term} {i j : Nat} {x y : Term} (hij : i < j) (hj : j < ts.length) (q : Nat) : (swapT ts i j x y)[q]? = if q = j then some x else if q = i then some y else ts[q]? := by
  rw [swapT, List.getElem?_set, List.getElem?_set]
  by_cases e1 : j = q
  · subst e1; simp [hj]
  · rw [if_neg e1, if_neg (Ne.symm e1)]
    by_cases e2 : i = q
    · subst e2; rw [if_pos rfl, if_pos rfl, if_pos (by omega)]
    · rw [if_neg e2, if_neg (Ne.symm e2)]
theorem sortedTo_swap {ts : List Term} {i j : Nat} {x y : Term} (hij : i < j) (hx : ts[i]? = some x) (hy : ts[j]? = some y) (h : SortedTo i ts) : SortedTo i (swapT ts i j x y) := by
  have hj := (List.getElem?_eq_some_iff.1 hy).1
  intro p q a b hp hpq ha hb
  rw [swapT_get hij hj, if_neg (by omega), if_neg (by omega)] at ha
  rw [swapT_get hij hj] at hb
  split at hb
  · cases hb; exact h p i a x hp hp ha hx
  · split at hb
    · cases hb; exact h p j a y hp (by omega) ha hy
    · exact h p q a b hp hpq ha hb
end Go.AM.Tryd
end
section
set_option maxRecDepth 100000
set_option maxHeartbeats 4000000
set_option linter.unusedVariables false
set_option linter.unusedSimpArgs false
namespace Go.AM.Tryd
open Go Go.AM Go.AM.D
theorem at2_ (v : AV) (ts : List Term) (t : Term) (h h0 : Heap) (hT : TRow h0 h v ts) (hl : ts.length ≤ 4611686018427387904) : AFn PR (.fn (.func 24) [] []) [v, .agg (eTerm t)] h (fun a h' => a = .lit (.int .i64 (atF t ts 0)) ∧ h.le h') := by
  refine AFn_q Go.Proofs.Tryz.func24 rfl (by rfl) Go.Proofs.Tryz.ntmps24 rfl (by simp) ?_
  refine AW_x [] [] ?_
  refine AW_it [] [(2, 2), (4, 2), (4, 3)] [(0, _), (3, _), (4, _)] (fun (i : Nat) => [(5, .lit (.int .i64 ((i : Nat) : Int)))]) (fun (i : Nat) => h) (fun (i : Nat) => i ≤ ts.length ∧ atF t ts 0 = atF t (ts.drop i) i) (fun (i : Nat) => ts.length - i) (0) ⟨rfl, rfl, rfl, trivial⟩ ⟨rfl, trivial⟩ rfl (⟨by omega, rfl⟩) ?_
  rintro i ⟨hIi, hSi⟩
  refine ⟨(.lit (.int .i64 ((ts.length : Nat) : Int))), hT.len rfl un37 rfl, brD (fun hc0 => ?_) (fun hc0 => ?_)⟩
  · skip
    obtain ⟨x, hrx, hdx, hmx⟩ := drop_at (l := ts) (i := i) (by omega)
    rw [hdx, atF] at hSi
    obtain ⟨b, cap, rest, hvn, hcap, -, hS⟩ := hT.own (by omega)
    refine ⟨⟨hmixed, by kernel_rfl⟩, (.ptr b (i * 3)), PO_ixT rfl un37 ty25 (congrArg some hvn) rfl (by omega), (.agg (eTerm x)), PO_load_row rfl ty25 rfl (hS.get 0 rfl) (tcs_load hrx), T25, _, q25 x t, brD (fun hc4 => ?_) (fun hc4 => ?_)⟩
    · skip
      rw [if_pos hc4] at hSi
      refine AW_ret ?_
      exact ret_R (.inl rfl) rfl ⟨by rw [hSi], .refl _⟩
    · skip
      rw [if_neg hc4] at hSi
      refine ⟨_, f1 (by first | omega | (simp_all <;> omega)), ?_⟩
      exact ⟨i + 1, ⟨by omega, hSi⟩, by omega, ⟨rfl, ⟨rfl, rfl, rfl, rfl, trivial⟩, rfl, rfl, rfl⟩⟩
  · skip
    rw [drop_end (l := ts) (i := i) (by omega), atF] at hSi
    refine AW_ret ?_
    exact ret_R (.inl rfl) rfl ⟨by rw [hSi], .refl _⟩
theorem pred2_ (l : List Rule) (hl : l.length ≤ 1048576) (h : Heap) : AFn PR (.fn (.func 22) [] []) [.sl .any 13 (l.map eRule)] h (fun a h' => TRow h h' a (predF l [])) := by
  refine AFn_q Go.Proofs.Tryz.func22 rfl (by rfl) Go.Proofs.Tryz.ntmps22 rfl (by simp) ?_
  refine AW_x [] [] ?_
  refine ⟨3, 3, ?_⟩
  refine AW_it [] [(6, 7)] [(0, _), (2, _)] (fun (z_ : Nat × List Term × AV × Heap) => match z_ with | (i, acc, vn, hp) => [(4, .lit (.int .i64 ((i : Nat) : Int))), (3, vn)]) (fun (z_ : Nat × List Term × AV × Heap) => match z_ with | (i, acc, vn, hp) => hp) (fun (z_ : Nat × List Term × AV × Heap) => match z_ with | (i, acc, vn, hp) => i ≤ l.length ∧ predF l [] = predF (l.drop i) acc ∧ acc.length ≤ i ∧ TRow h hp vn acc) (fun (z_ : Nat × List Term × AV × Heap) => match z_ with | (i, acc, vn, hp) => l.length - i) ((0, [], .sl .nil 3 [], h)) ⟨rfl, rfl, trivial⟩ ⟨rfl, rfl, trivial⟩ rfl (⟨by omega, rfl, by simp, TRow.start _⟩) ?_
  rintro ⟨i, acc, vn, hp⟩ ⟨hIi, hSi, hA, hT⟩
  refine ⟨L22, _, lm, brD (fun hc0 => ?_) (fun hc0 => ?_)⟩
  · skip
    obtain ⟨r, hrr, hdr, hmr⟩ := drop_at (l := l) (i := i) (by omega)
    rw [hdr, predF] at hSi
    refine ⟨L22, _, ⟨rfl, (by first | decide | omega), (mget hrr)⟩, F46_0, A43, by decide, T41, ?_⟩
    refine AL_als rfl rfl rfl rfl rfl rfl al41 rfl rfl rfl rfl rfl ?_
    refine AL_nil ?_
    refine ⟨F41_0, T9, _, fun hg21 => ⟨F41_1, T25, (.lit (.int .i64 (atF r.head.b.term acc 0))), PO_callH rfl rfl rfl (at2_ vn acc r.head.b.term hp h hT (by omega)), rfl⟩, fun hc6 => ?_, fun hc6 => ?_⟩
    · skip
      rw [if_pos hc6] at hSi
      refine ⟨F41_1, T25, (.sl .full 3 ([r.head.b.term].map eTerm)), PO_buildSlice (n := 1) (S := 3) (rs := eTerm r.head.b.term ++ []) rfl un37 ty25 z25 rfl rfl rfl (by decide) rfl (by decide), ?_⟩
      refine AL_m rfl rfl rfl (MO_appT3 rfl un37 un37 ty25 z25 rfl by25 rfl rfl hT (by omega) (by omega)) ?_
      rintro vn2 hp2 hT2
      refine AL_x [] [] 5 ?_
      refine ⟨_, f1 (by first | omega | (simp_all <;> omega)), ?_⟩
      exact ⟨(i + 1, acc ++ [r.head.b.term], vn2, hp2), ⟨by omega, hSi, by simp; omega, hT2⟩, by simp; omega, ⟨rfl, ⟨rfl, rfl, rfl, rfl, trivial⟩, rfl, rfl, rfl⟩⟩
    · skip
      rw [if_neg (by rw [hc6]; simp)] at hSi
      refine ⟨_, f1 (by first | omega | (simp_all <;> omega)), ?_⟩
      exact ⟨(i + 1, acc, vn, hp), ⟨by omega, hSi, by omega, hT⟩, by simp; omega, ⟨rfl, ⟨rfl, rfl, rfl, rfl, trivial⟩, rfl, rfl, rfl⟩⟩
  · skip
    rw [drop_end (l := l) (i := i) (by omega), predF] at hSi
    refine AW_ret ?_
    exact ret_R (.inl rfl) rfl (by rw [hSi]; exact hT)
end Go.AM.Tryd
end
section
set_option maxRecDepth 100000
set_option linter.unusedVariables false
set_option linter.unusedSimpArgs false
namespace Go.AM.Tryd
open Go Go.AM Go.AM.D Go.RowKit
def SortIn (i j : Nat) (ts : List Term) : Prop := ∀ (q : Nat) (x b : Term), i < q → q < j → ts[i]? = some x → ts[q]? = some b → lessT b x = false
section
variable {ts : List Term} {i j : Nat} {x y : Term}
theorem sortIn_next (h : SortIn i j ts) (hx : ts[i]? = some x) (hy : ts[j]? = some y) (hl : lessT y x = false) : SortIn i (j + 1) ts := by
  intro q a b h1 h2 ha hb
  by_cases e : q = j
  · subst e; rw [hx] at ha; rw [hy] at hb; cases ha; cases hb; exact hl
  · exact h q a b h1 (by omega) ha hb
theorem sortIn_swap (hij : i < j) (h : SortIn i j ts) (hx : ts[i]? = some x) (hy : ts[j]? = some y) (hl : lessT y x = true) : SortIn i (j + 1) (swapT ts i j x y) := by
  have hj := (List.getElem?_eq_some_iff.1 hy).1
  intro q a b h1 h2 ha hb
  rw [swapT_get hij hj, if_neg (by omega), if_pos rfl] at ha
  cases ha
  rw [swapT_get hij hj] at hb
  by_cases e : q = j
  · rw [if_pos e] at hb; cases hb; exact lessT_asym hl
  · rw [if_neg e, if_neg (by omega)] at hb
    exact lessT_ntrans (lessT_asym hl) (h q x b h1 (by omega) hx hb)
theorem sortedTo_next (h : SortedTo i ts) (k : SortIn i ts.length ts) : SortedTo (i + 1) ts := by
  intro p q a b hp hpq ha hb
  by_cases e : p = i
  · subst e; exact k q a b hpq (List.getElem?_eq_some_iff.1 hb).1 ha hb
  · exact h p q a b (by omega) hpq ha hb
end
theorem TRow.swap {h hp : Heap} {v : AV} {ts : List Term} {b cap i j : Nat} {rest : List AV} {x y : Term} (hv : v = .ms b 0 3 ts.length cap) (hc : ts.length ≤ cap) (hl : (tcs ts ++ rest).length = cap * 3) (hS : Sep h hp [(b, .row (tcs ((ts.set i y).set j x) ++ rest))]) : TRow h hp v (swapT ts i j x y) :=
  .inr ⟨b, cap, rest, by rw [swapT_len]; exact hv, by rw [swapT_len]; exact hc, by rw [← hl, List.length_append, List.length_append, tcs_len, tcs_len, swapT_len], hS⟩
theorem grow_swap {h hq hp : Heap} {S n S' m : Nat} {o o' : Own} (k : Grow h S n o hq) (k' : Grow hq S' m o' hp) : ∃ hq', Grow h S' m o' hq' ∧ Grow hq' S n o hp := by
  rcases k' with ⟨rfl, rfl⟩ | ⟨rfl, rfl⟩ | ⟨b', rfl, hb', rfl⟩
  · exact ⟨h, .inl ⟨rfl, rfl⟩, k⟩
  · exact ⟨h, .inr (.inl ⟨rfl, rfl⟩), k⟩
  · rcases k with ⟨rfl, rfl⟩ | ⟨rfl, rfl⟩ | ⟨b, rfl, hb, rfl⟩
    · exact ⟨_, .inr (.inr ⟨b', rfl, hb', rfl⟩), .inl ⟨rfl, rfl⟩⟩
    · exact ⟨_, .inr (.inr ⟨b', rfl, hb', rfl⟩), .inr (.inl ⟨rfl, rfl⟩)⟩
    · have hne : b' ≠ b := fun e => by rw [e, Heap.upd_same] at hb'; cases hb'
      rw [Heap.upd_other _ hne] at hb'
      refine ⟨_, .inr (.inr ⟨b', rfl, hb', rfl⟩), .inr (.inr ⟨b, rfl, by rw [Heap.upd_other _ (Ne.symm hne)]; exact hb, ?_⟩)⟩
      funext q
      by_cases e1 : q = b'
      · subst e1; rw [Heap.upd_same, Heap.upd_other _ hne, Heap.upd_same]
      · by_cases e2 : q = b
        · subst e2; rw [Heap.upd_other _ e1, Heap.upd_same, Heap.upd_same]
        · rw [Heap.upd_other _ e1, Heap.upd_other _ e2, Heap.upd_other _ e2, Heap.upd_other _ e1]
theorem idx_eq {ns : List Term} (hn : ns.Nodup) {i j : Nat} {x n : Term} (hx : ns[i]? = some x) (hj : ns[j]? = some n) : decide (((j : Nat) : Int) = ((i : Nat) : Int)) = decide (n = x) := by
  rw [decide_eq_decide]
  constructor
  · intro e
    have : j = i := by omega
    subst this; rw [hj] at hx; exact Option.some.inj hx
  · rintro rfl
    have := (List.getElem?_inj (List.getElem?_eq_some_iff.1 hj).1 hn).1 (hj.trans hx.symm)
    omega
section
variable (l : List Rule) (ns : List Term)
noncomputable def grpP (x n : Term) : Bool := decide (n = x) || (reachB l ns x n && reachB l ns n x)
noncomputable def grpT (x : Term) : List Term := ns.filter (grpP l ns x)
noncomputable def blkT (done : List Term) (x n : Term) : Bool := (decide (atF n (grpT l ns x) 0 < 0) && decide (atF n done 0 < 0)) && reachB l ns x n
noncomputable def pickX (done : List Term) (x : Term) : Bool := decide (atF x done 0 < 0) && !(ns.any (blkT l ns done x))
inductive RefS : List Term → List (List Term) → Prop
  | nil : RefS [] []
  | pick {done : List Term} {acc : List (List Term)} {i : Nat} {x : Term} (h : RefS done acc) (hx : ns[i]? = some x) (hn : ∀ (k : Nat) (y : Term), k < i → ns[k]? = some y → pickX l ns done y = false) (hp : pickX l ns done x = true) : RefS (done ++ grpT l ns x) (acc ++ [grpT l ns x])
end
section
variable {l : List Rule} {ns : List Term}
theorem atF_lt {t : Term} {l : List Term} : decide (atF t l 0 < 0) = decide (t ∉ l) := by
  rw [decide_eq_decide]
  exact ⟨not_atF, fun h => by
    by_cases e : atF t l 0 < 0
    · exact e
    · exact absurd (is_atF e) h⟩
theorem grpT_mem {x n : Term} : n ∈ grpT l ns x ↔ n ∈ ns ∧ (n = x ∨ (TGT l ns x n ∧ TGT l ns n x)) := by
  simp [grpT, grpP, List.mem_filter, reachB_iff]
theorem pickX_iff {done : List Term} {x : Term} : pickX l ns done x = true ↔ x ∉ done ∧ ∀ n ∈ ns, n ∈ grpT l ns x ∨ n ∈ done ∨ ¬ TGT l ns x n := by
  simp only [pickX, blkT, atF_lt, Bool.and_eq_true, decide_eq_true_eq, Bool.not_eq_true', List.any_eq_false, Bool.and_eq_true, not_and, ← reachB_iff]
  refine and_congr_right fun _ => forall_congr' fun n => forall_congr' fun _ => ?_
  constructor
  · intro h
    by_cases h1 : n ∈ grpT l ns x
    · exact .inl h1
    · by_cases h2 : n ∈ done
      · exact .inr (.inl h2)
      · exact .inr (.inr (h ⟨h1, h2⟩))
  · rintro (h | h | h) ⟨k1, k2⟩
    · exact absurd h k1
    · exact absurd h k2
    · exact h
open Classical in
theorem pick_ex (done : List Term) : ∀ (k : Nat) (x : Term), x ∈ ns → x ∉ done → (ns.countP fun y => decide (y = x ∨ TGT l ns x y)) < k → ∃ x ∈ ns, pickX l ns done x = true
  | 0, _, _, _, h => absurd h (Nat.not_lt_zero _)
  | k + 1, x, hx, hd, hk => by
    by_cases hp : pickX l ns done x = true
    · exact ⟨x, hx, hp⟩
    · rw [pickX_iff] at hp
      have hp2 : ¬ ∀ n ∈ ns, n ∈ grpT l ns x ∨ n ∈ done ∨ ¬ TGT l ns x n := fun h => hp ⟨hd, h⟩
      simp only [Classical.not_forall, not_or, Classical.not_not] at hp2
      obtain ⟨n, hn, h1, h2, h3⟩ := hp2
      refine pick_ex done k n hn h2 (Nat.lt_of_lt_of_le (countP_lt (fun y _ hy => ?_) ⟨x, hx, ?_, ?_⟩) (Nat.le_of_lt_succ hk))
      · simp only [decide_eq_true_eq] at hy ⊢
        rcases hy with rfl | hy
        · exact .inr h3
        · exact .inr (h3.trans hy)
      · simp
      · simp only [decide_eq_false_iff_not, not_or]
        exact ⟨fun e => h1 (grpT_mem.2 ⟨hn, .inl e.symm⟩), fun e => h1 (grpT_mem.2 ⟨hn, .inr ⟨h3, e⟩⟩)⟩
theorem ref_ex {done : List Term} (hn : ns.Nodup) (hd : done.length < ns.length) : ∃ x ∈ ns, pickX l ns done x = true := by
  have : ¬ ∀ x ∈ ns, x ∈ done := fun h => by have := nodup_len ns done hn h; omega
  simp only [Classical.not_forall] at this
  obtain ⟨x, hx, hd⟩ := this
  exact pick_ex done _ x hx hd (Nat.lt_succ_self _)
theorem grpT_pos {i : Nat} {x : Term} (hx : ns[i]? = some x) : 0 < (grpT l ns x).length := List.length_pos_of_mem (grpT_mem.2 ⟨List.mem_of_getElem? hx, .inl rfl⟩)
theorem grpT_len (x : Term) : (grpT l ns x).length ≤ ns.length := List.length_filter_le ..
theorem filter_next {p : Term → Bool} {j : Nat} {n : Term} (hn : ns[j]? = some n) : (ns.take (j + 1)).filter p = (ns.take j).filter p ++ if p n = true then [n] else [] := by
  rw [List.take_add_one, hn, Option.toList_some, List.filter_append]
  congr 1
  by_cases h : p n = true <;> simp [h]
theorem any_next {p : Term → Bool} {j : Nat} {n : Term} (hn : ns[j]? = some n) : (ns.take (j + 1)).any p = ((ns.take j).any p || p n) := by
  rw [List.take_add_one, hn, Option.toList_some, List.any_append]; simp
end
def RefR (l : List Rule) (a : AV) : Prop := ∃ ns done acc, ns.Perm (predF l []) ∧ SortedTo ns.length ns ∧ RefS l ns done acc ∧ ns.length ≤ done.length ∧ a = .sl .any 1 (acc.map fun ts => [.sl .any 3 (ts.map eTerm)])
end Go.AM.Tryd
end
section
set_option maxRecDepth 100000
set_option maxHeartbeats 4000000
set_option linter.unusedVariables false
set_option linter.unusedSimpArgs false
namespace Go.AM.Tryd
open Go Go.AM Go.AM.D
theorem compsR_ (l : List Rule) (hl : okRs l) (h : Heap) : AFn PR (.fn (.func 8) [] []) [.sl .any 13 (l.map eRule)] h (fun a h' => h.le h' ∧ RefR l a) := by
  have hl1 := hl.1
  have hPl := predF_len l []
  simp only [List.length_nil, Nat.zero_add] at hPl
  refine AFn_q Go.Proofs.Tryz.func8 rfl (by rfl) Go.Proofs.Tryz.ntmps8 rfl (by simp) ?_
  refine AW_x [(10, 0), (1, 2)] [] ?_
  refine ⟨1, ?_⟩
  refine AL_m rfl rfl rfl (MO_call rfl rfl rfl (pred2_ l hl1 _)) ?_
  rintro vn hp0 hT0
  refine AL_x [] [] 2 ?_
  refine AW_it [] [(3, 2)] [(0, _), (2, _), (3, _)] (fun (z_ : Nat × List Term × Heap) => match z_ with | (i, ns, hp) => [(4, .lit (.int .i64 ((i : Nat) : Int)))]) (fun (z_ : Nat × List Term × Heap) => match z_ with | (i, ns, hp) => hp) (fun (z_ : Nat × List Term × Heap) => match z_ with | (i, ns, hp) => i ≤ ns.length ∧ ns.Perm (predF l []) ∧ SortedTo i ns ∧ TRow h hp vn ns) (fun (z_ : Nat × List Term × Heap) => match z_ with | (i, ns, hp) => (predF l []).length - i) ((0, predF l [], hp0)) ⟨rfl, rfl, rfl, trivial⟩ ⟨rfl, trivial⟩ rfl (⟨by omega, .refl _, (fun p q a b hp => absurd hp (by omega)), hT0⟩) ?_
  rintro ⟨i, ns, hp⟩ ⟨hIi, hpm, hso, hT⟩
  have hnl := hpm.length_eq
  refine ⟨(.lit (.int .i64 ((ns.length : Nat) : Int))), hT.len rfl un37 rfl, brD (fun hc3 => ?_) (fun hc3 => ?_)⟩
  · skip
    refine ⟨_, f1 (by first | omega | (simp_all <;> omega)), ?_⟩
    refine AW_it [] [(6, 2)] [(4, _), (0, _), (2, _), (3, _)] (fun (z_ : Nat × List Term × Heap) => match z_ with | (j, ns2, hp2) => [(5, .lit (.int .i64 ((j : Nat) : Int)))]) (fun (z_ : Nat × List Term × Heap) => match z_ with | (j, ns2, hp2) => hp2) (fun (z_ : Nat × List Term × Heap) => match z_ with | (j, ns2, hp2) => i < j ∧ j ≤ ns2.length ∧ ns2.Perm (predF l []) ∧ SortedTo i ns2 ∧ SortIn i j ns2 ∧ TRow h hp2 vn ns2) (fun (z_ : Nat × List Term × Heap) => match z_ with | (j, ns2, hp2) => (predF l []).length - j) ((i + 1, ns, hp)) ⟨rfl, rfl, rfl, rfl, trivial⟩ ⟨rfl, trivial⟩ rfl (⟨by omega, by omega, hpm, hso, (fun q x b h1 h2 => absurd h2 (by omega)), hT⟩) ?_
    rintro ⟨j, ns2, hp2⟩ ⟨hij, hIj, hpm2, hso2, hin, hT2⟩
    have hnl2 := hpm2.length_eq
    refine ⟨(.lit (.int .i64 ((ns2.length : Nat) : Int))), hT2.len rfl un37 rfl, brD (fun hc6 => ?_) (fun hc6 => ?_)⟩
    · skip
      obtain ⟨y, hy, -, hym⟩ := drop_at (l := ns2) (i := j) (by omega)
      obtain ⟨x, hx, -, -⟩ := drop_at (l := ns2) (i := i) (by omega)
      obtain ⟨b, cap, rest, hvn, hcap, hlen, hS⟩ := hT2.own (by omega)
      subst hvn
      refine ⟨⟨hmixed, by kernel_rfl⟩, L37, _, ixs (by first | omega | simpa using (by omega)), T25, _, _, ⟨hS.get 0 rfl, tcs_load hy⟩, L37, _, ixs (by first | omega | simpa using (by omega)), T25, _, _, ⟨hS.get 0 rfl, tcs_load hx⟩, _, (lessR_ _ _), fun hc8 => ?_, fun hc8 => ?_⟩
      · skip
        refine ⟨⟨hmixed, by kernel_rfl⟩, L37, _, ixs (by first | omega | simpa using (by omega)), T25, _, _, ⟨hS.get 0 rfl, tcs_load hy⟩, L37, _, ixs (by first | omega | simpa using (by omega)), T25, _, _, ⟨hS.get 0 rfl, tcs_load hx⟩, L37, _, ixs (by first | omega | simpa using (by omega)), L37, _, ixs (by first | omega | simpa using (by omega)), ?_⟩
        refine ⟨_, MO_stT rfl ty25 rfl rfl hS (by omega), ?_⟩
        rintro _ hp3 ⟨-, hS⟩
        refine ⟨_, MO_stT rfl ty25 rfl rfl hS (by rw [List.length_set]; omega), ?_⟩
        rintro _ hp4 ⟨-, hS⟩
        refine ⟨_, f1 (by first | omega | (simp_all <;> omega)), ?_⟩
        exact ⟨(j + 1, swapT ns2 i j x y, hp4), ⟨by omega, by rw [swapT_len]; omega, (swapT_perm hij hx hy).trans hpm2, sortedTo_swap hij hx hy hso2, sortIn_swap hij hin hx hy hc8, .swap rfl hcap hlen hS⟩, by simp only []; omega, ⟨rfl, ⟨rfl, rfl, rfl, rfl, rfl, trivial⟩, rfl, rfl, rfl⟩⟩
      · skip
        refine ⟨_, f1 (by first | omega | (simp_all <;> omega)), ?_⟩
        exact ⟨(j + 1, ns2, hp2), ⟨by omega, by omega, hpm2, hso2, sortIn_next hin hx hy (by simpa using hc8), hT2⟩, by simp only []; omega, ⟨rfl, ⟨rfl, rfl, rfl, rfl, rfl, trivial⟩, rfl, rfl, rfl⟩⟩
    · skip
      rw [show j = ns2.length by omega] at hin
      refine ⟨_, f1 (by first | omega | (simp_all <;> omega)), ?_⟩
      exact ⟨(i + 1, ns2, hp2), ⟨by omega, hpm2, sortedTo_next hso2 hin, hT2⟩, by simp only []; omega, ⟨rfl, ⟨rfl, rfl, rfl, rfl, trivial⟩, rfl, rfl, rfl⟩⟩
  · skip
    refine AW_seq ?_
    refine AW_frzT (k := 3) rfl hT fun hp1 hle1 => ?_
    have hnd : ns.Nodup := hpm.nodup_iff.2 (predF_nodup l [] List.nodup_nil)
    rw [show i = ns.length by omega] at hso
    refine AW_xr [] [] ?_
    refine ⟨1, ?_⟩
    refine AW_x [] [] ?_
    refine ⟨3, ?_⟩
    refine AW_it [] [] [(0, _), (2, _), (3, _)] (fun (z_ : List Term × List (List Term) × Own × Own × Heap × Heap) => match z_ with | (done, acc, o1, o2, hq, hp) => [(7, .sl o1 3 (done.map eTerm)), (6, .sl o2 1 (acc.map (fun l => [.sl .any 3 (l.map eTerm)])))]) (fun (z_ : List Term × List (List Term) × Own × Own × Heap × Heap) => match z_ with | (done, acc, o1, o2, hq, hp) => hp) (fun (z_ : List Term × List (List Term) × Own × Own × Heap × Heap) => match z_ with | (done, acc, o1, o2, hq, hp) => RefS l ns done acc ∧ acc.length ≤ done.length ∧ done.length ≤ 2 * 1048576 ∧ Grow hp1 1 acc.length o2 hq ∧ Grow hq 3 done.length o1 hp) (fun (z_ : List Term × List (List Term) × Own × Own × Heap × Heap) => match z_ with | (done, acc, o1, o2, hq, hp) => ns.length - done.length) (([], [], .nil, .nil, hp1, hp1)) ⟨rfl, rfl, rfl, trivial⟩ ⟨rfl, rfl, trivial⟩ rfl (⟨.nil, by simp, by simp, Grow.nil _ _ _, Grow.nil _ _ _⟩) ?_
    rintro ⟨done, acc, o1, o2, hq, hp⟩ ⟨hRS, hda, hdl, hGa0, hGd⟩
    refine ⟨L37, _, lm, L37, _, lm, brD (fun hc12 => ?_) (fun hc12 => ?_)⟩
    · skip
      refine AW_it [(23, 0), (30, 0), (31, 0)] [] [(7, _), (6, _), (0, _), (2, _), (3, _)] (fun (i : Nat) => [(8, .lit (.int .i64 ((i : Nat) : Int)))]) (fun (i : Nat) => hp) (fun (i : Nat) => i ≤ ns.length ∧ ∀ (k : Nat) (y : Term), k < i → ns[k]? = some y → pickX l ns done y = false) (fun (i : Nat) => ns.length - i) (0) ⟨rfl, rfl, rfl, rfl, rfl, trivial⟩ ⟨rfl, trivial⟩ rfl (⟨by omega, fun k y hk => absurd hk (by omega)⟩) ?_
      rintro i ⟨hIi, hno⟩
      refine ⟨L37, _, lm, brD (fun hc14 => ?_) (fun hc14 => ?_)⟩
      · skip
        obtain ⟨x, hx, -, hxm⟩ := drop_at (l := ns) (i := i) (by omega)
        refine ⟨L37, _, ⟨rfl, (by first | decide | omega), (mget hx)⟩, T25, _, (at_ _ _ _ (by first | assumption | omega)), brD (fun hc16 => ?_) (fun hc16 => ?_)⟩
        · skip
          have hnp : pickX l ns done x = false := by rw [pickX, show decide (atF x done 0 < 0) = false from decide_eq_false (by omega)]; rfl
          refine ⟨_, f1 (by first | omega | (simp_all <;> omega)), ?_⟩
          exact ⟨i + 1, ⟨by omega, fun k y hk hy => by
              by_cases e : k = i
              · subst e; rw [hx] at hy; cases hy; exact hnp
              · exact hno k y (by omega) hy⟩, by omega, ⟨rfl, ⟨rfl, rfl, rfl, rfl, rfl, rfl, trivial⟩, rfl, rfl, rfl⟩⟩
        · skip
          have hxd : decide (atF x done 0 < 0) = true := decide_eq_true (by omega)
          refine ⟨3, ?_⟩
          refine AW_it [] [] [(8, _), (7, _), (6, _), (0, _), (2, _), (3, _)] (fun (z_ : Nat × List Term × Own × Heap) => match z_ with | (j, grp, o3, hp3) => [(10, .lit (.int .i64 ((j : Nat) : Int))), (9, .sl o3 3 (grp.map eTerm))]) (fun (z_ : Nat × List Term × Own × Heap) => match z_ with | (j, grp, o3, hp3) => hp3) (fun (z_ : Nat × List Term × Own × Heap) => match z_ with | (j, grp, o3, hp3) => j ≤ ns.length ∧ grp = (ns.take j).filter (grpP l ns x) ∧ Grow hp 3 grp.length o3 hp3) (fun (z_ : Nat × List Term × Own × Heap) => match z_ with | (j, grp, o3, hp3) => ns.length - j) ((0, [], .nil, hp)) ⟨rfl, rfl, rfl, rfl, rfl, rfl, trivial⟩ ⟨rfl, rfl, trivial⟩ rfl (⟨by omega, rfl, Grow.nil _ _ _⟩) ?_
          rintro ⟨j, grp, o3, hp3⟩ ⟨hIj, hgrp, hGg⟩
          have hgl : grp.length ≤ j := by rw [hgrp]; exact Nat.le_trans (List.length_filter_le ..) (by rw [List.length_take]; omega)
          refine ⟨L37, _, lm, brD (fun hc19 => ?_) (fun hc19 => ?_)⟩
          · skip
            obtain ⟨n, hn, -, hnm⟩ := drop_at (l := ns) (i := j) (by omega)
            refine ⟨⟨hmixed, by kernel_rfl⟩, _, fun hg79 => ⟨L37, _, ⟨rfl, (by first | decide | omega), (mget hx)⟩, T25, L37, _, ⟨rfl, (by first | decide | omega), (mget hn)⟩, T25, _, (reaches_ _ _ _ _ (by assumption) (by first | assumption | omega)), _, fun hg91 => ⟨L37, _, ⟨rfl, (by first | decide | omega), (mget hn)⟩, T25, L37, _, ⟨rfl, (by first | decide | omega), (mget hx)⟩, T25, _, (reaches_ _ _ _ _ (by assumption) (by first | assumption | omega)), rfl⟩, rfl⟩, fun hc21 => ?_, fun hc21 => ?_⟩
            · skip
              rw [idx_eq hnd hx hn] at hc21
              change grpP l ns x n = true at hc21
              refine ⟨L37, _, ⟨rfl, (by first | decide | omega), (mget hn)⟩, T25, (.sl .full 3 ([n].map eTerm)), PO_buildSlice (n := 1) (S := 3) (rs := eTerm n ++ []) rfl un37 ty25 z25 rfl rfl rfl (by decide) rfl (by decide), ?_⟩
              refine AL_m rfl rfl rfl (MO_grow (acc := grp) (f := eTerm) rfl un37 un37 ty25 z25 rfl by25 rfl rfl (.inl rfl) (by first | omega | simp) hGg (by simp; omega) (by simp; omega)) ?_
              rintro _ h1 ⟨own1, rfl, hG1⟩
              refine AL_x [] [] 7 ?_
              refine ⟨_, f1 (by first | omega | (simp_all <;> omega)), ?_⟩
              exact ⟨(j + 1, grp ++ [n], own1, h1), ⟨by omega, by rw [filter_next hn, if_pos hc21, hgrp], hG1⟩, by simp only []; omega, ⟨rfl, ⟨rfl, rfl, rfl, rfl, rfl, rfl, rfl, rfl, trivial⟩, rfl, rfl, rfl⟩⟩
            · skip
              rw [idx_eq hnd hx hn] at hc21
              change grpP l ns x n = false at hc21
              refine ⟨_, f1 (by first | omega | (simp_all <;> omega)), ?_⟩
              exact ⟨(j + 1, grp, o3, hp3), ⟨by omega, by rw [filter_next hn, if_neg (by rw [hc21]; simp), List.append_nil, hgrp], hGg⟩, by simp only []; omega, ⟨rfl, ⟨rfl, rfl, rfl, rfl, rfl, rfl, rfl, rfl, trivial⟩, rfl, rfl, rfl⟩⟩
          · skip
            have hgrp : grp = grpT l ns x := by rw [hgrp, List.take_of_length_le (by omega)]; rfl
            subst hgrp
            have hgp := grpT_pos (l := l) hx
            have hgL := grpT_len (l := l) (ns := ns) x
            refine AW_seq ?_
            refine AW_ghost (ghost_ungrow (k := 9) rfl hGg) ?_
            refine AW_xr [] [] ?_
            refine AW_x [(30, 0), (31, 0)] [] ?_
            refine AW_it [] [] [(9, _), (8, _), (7, _), (6, _), (0, _), (2, _), (3, _)] (fun (z_ : Nat × Bool) => match z_ with | (j, ok) => [(12, .lit (.int .i64 ((j : Nat) : Int))), (11, .lit (.bool ok))]) (fun (z_ : Nat × Bool) => match z_ with | (j, ok) => hp) (fun (z_ : Nat × Bool) => match z_ with | (j, ok) => j ≤ ns.length ∧ ok = !((ns.take j).any (blkT l ns done x))) (fun (z_ : Nat × Bool) => match z_ with | (j, ok) => ns.length - j) ((0, true)) ⟨rfl, rfl, rfl, rfl, rfl, rfl, rfl, trivial⟩ ⟨rfl, rfl, trivial⟩ rfl (⟨by omega, rfl⟩) ?_
            rintro ⟨j, ok⟩ ⟨hIj, hok⟩
            refine ⟨L37, _, lm, brD (fun hc25 => ?_) (fun hc25 => ?_)⟩
            · skip
              obtain ⟨n, hn, -, hnm⟩ := drop_at (l := ns) (i := j) (by omega)
              refine ⟨⟨hmixed, by kernel_rfl⟩, L37, _, ⟨rfl, (by first | decide | omega), (mget hn)⟩, T25, _, (at_ _ _ _ (by first | assumption | omega)), _, fun hg125 => ⟨L37, _, ⟨rfl, (by first | decide | omega), (mget hn)⟩, T25, _, (at_ _ _ _ (by first | assumption | omega)), rfl⟩, _, fun hg134 => ⟨L37, _, ⟨rfl, (by first | decide | omega), (mget hx)⟩, T25, L37, _, ⟨rfl, (by first | decide | omega), (mget hn)⟩, T25, _, (reaches_ _ _ _ _ (by assumption) (by first | assumption | omega)), rfl⟩, fun hc27 => ?_, fun hc27 => ?_⟩
              · skip
                refine ⟨_, f1 (by first | omega | (simp_all <;> omega)), ?_⟩
                exact ⟨(j + 1, false), ⟨by omega, by rw [any_next hn, show blkT l ns done x n = true from hc27]; simp⟩, by simp only []; omega, ⟨rfl, ⟨rfl, rfl, rfl, rfl, rfl, rfl, rfl, rfl, rfl, trivial⟩, rfl, rfl, rfl⟩⟩
              · skip
                refine ⟨_, f1 (by first | omega | (simp_all <;> omega)), ?_⟩
                exact ⟨(j + 1, ok), ⟨by omega, by rw [any_next hn, show blkT l ns done x n = false from hc27, Bool.or_false]; exact hok⟩, by simp only []; omega, ⟨rfl, ⟨rfl, rfl, rfl, rfl, rfl, rfl, rfl, rfl, rfl, trivial⟩, rfl, rfl, rfl⟩⟩
            · skip
              rw [List.take_of_length_le (by omega)] at hok
              have hpx : pickX l ns done x = ok := by rw [pickX, hxd, hok]; rfl
              refine ⟨fun hc29 => ?_, fun hc29 => ?_⟩
              · skip
                have hpk : pickX l ns done x = true := hpx.trans hc29
                refine AW_seq ?_
                obtain ⟨hq, hGd0, hGa⟩ := grow_swap hGa0 hGd
                refine AW_xr [] [] ?_
                refine ⟨(.sl .full 1 ([(grpT l ns x)].map (fun l => [.sl .any 3 (l.map eTerm)]))), PO_buildSlice (n := 1) (S := 1) (rs := [.sl .any 3 ((grpT l ns x).map eTerm)] ++ []) rfl un52 ty37 z37 rfl rfl rfl (by decide) rfl (by decide), ?_⟩
                refine AL_m rfl rfl rfl (MO_grow (acc := acc) (f := (fun l => [.sl .any 3 (l.map eTerm)])) rfl un52 un52 ty37 z37 rfl by37 rfl rfl (.inl rfl) (by first | omega | simp) hGa (by simp; omega) (by simp; omega)) ?_
                rintro _ h2 ⟨own2, rfl, hG2⟩
                refine AL_x [] [] 4 ?_
                refine AW_seq ?_
                obtain ⟨hq, hGa, hGd⟩ := grow_swap hGd0 hG2
                refine AW_xr [] [] ?_
                refine AL_m rfl rfl rfl (MO_grow (acc := done) (f := eTerm) rfl un37 un37 ty25 z25 rfl by25 rfl rfl (.inl rfl) (by first | omega | simp) hGd (by omega) (by omega)) ?_
                rintro _ h3 ⟨own3, rfl, hG3⟩
                refine AL_x [] [] 3 ?_
                refine AW_x [] [] ?_
                exact ⟨(done ++ grpT l ns x, acc ++ [grpT l ns x], own3, own2, hq, h3), ⟨.pick hRS hx hno hpk, by simp; omega, by simp; omega, hGa, hG3⟩, by simp only [List.length_append]; omega, ⟨rfl, ⟨rfl, rfl, rfl, rfl, rfl, trivial⟩, rfl, rfl, rfl⟩⟩
              · skip
                have hnp : pickX l ns done x = false := by rw [hpx]; simpa using hc29
                refine ⟨_, f1 (by first | omega | (simp_all <;> omega)), ?_⟩
                exact ⟨i + 1, ⟨by omega, fun k y hk hy => by
                    by_cases e : k = i
                    · subst e; rw [hx] at hy; cases hy; exact hnp
                    · exact hno k y (by omega) hy⟩, by omega, ⟨rfl, ⟨rfl, rfl, rfl, rfl, rfl, rfl, trivial⟩, rfl, rfl, rfl⟩⟩
      · skip
        exfalso
        obtain ⟨y, hym, hyp⟩ := ref_ex (l := l) hnd (show done.length < ns.length by omega)
        obtain ⟨k, hk⟩ := List.mem_iff_getElem?.1 hym
        rw [hno k y (by have := (List.getElem?_eq_some_iff.1 hk).1; omega) hk] at hyp
        cases hyp
    · skip
      refine AW_any (k := 2) rfl ?_
      refine AW_ret ?_
      exact ret_R (.inl rfl) rfl ⟨hle1.trans (hGa0.le.trans hGd.le), ns, done, acc, hpm, hso, hRS, by omega, rfl⟩
end Go.AM.Tryd
end
section
set_option maxRecDepth 100000
set_option maxHeartbeats 4000000
set_option linter.unusedVariables false
set_option linter.unusedSimpArgs false
namespace Go.AM.Tryd
open Go Go.AM Go.AM.D
open Go.AM.Tarjan
theorem comps_ (l : List Rule) (hl : okRs l) (hbods : bods l ≤ 1048576) (h : Heap) : AFn PR (.fn (.func 6) [] []) [.sl .any 13 (l.map eRule)] h (fun a h' => h.le h' ∧ CompR l a) := by
  have hl1 := hl.1
  have hok := okG_see hl1 hbods
  have hgn := hok.1
  have hgout := hok.2.1
  have hnd : (seeG l).names.Nodup := predF_nodup l [] List.nodup_nil
  refine AFn_q Go.Proofs.Tryz.func6 rfl (by rfl) Go.Proofs.Tryz.ntmps6 rfl (by simp) ?_
  refine AW_x [(17, 0), (5, 2)] [(6, 4), (7, 1)] ?_
  refine ⟨1, _, (uprog_ _ (by assumption)), ?_⟩
  refine AL_als rfl rfl rfl rfl rfl rfl al72 rfl rfl rfl rfl rfl ?_
  refine AL_x [] [] 7 ?_
  refine brD (fun hc2 => ?_) (fun hc2 => ?_)
  · skip
    refine ⟨1, ?_⟩
    refine AW_any (k := 2) rfl ?_
    refine AW_ret ?_
    exact ret_R (.inl rfl) rfl ⟨.refl _, .inl ⟨hc2, rfl⟩⟩
  · skip
    have hp0z : progU l = 0 := by simpa using hc2
    refine ⟨_, (see_ _ (by assumption) (by assumption)), ?_⟩
    refine AL_als rfl rfl rfl rfl rfl rfl al56 rfl rfl rfl rfl rfl ?_
    refine AL_nil ?_
    refine ⟨T56, ?_⟩
    refine AL_m rfl rfl rfl (MO_call rfl rfl rfl (groups_ (seeG l) hok _)) ?_
    rintro vg hp0 ⟨gs, LG, out, idx, low, cnt, hGl, hSG, hgo, hgok, htj, hall⟩
    have hparts := parts_of htj hall
    have hgl0 : gs.length = out.length := by
      have := congrArg List.length hgo
      simpa using this
    have hpl := hparts.len
    refine AL_alsR rfl rfl rfl rfl rfl rfl al28 rfl rfl rfl (cell_elim (GrL.form hGl)) rfl ?_
    skip
    refine AL_nil ?_
    refine ⟨T56, F62_0, T37, (.lit (.int .i64 (((seeG l).names.length : Nat) : Int))), PO_lenM rfl un37 rfl, ?_⟩
    refine AL_m rfl rfl rfl (MO_mkn rfl un32 ty3 z3 by3 rfl rfl (by omega) (by omega)) ?_
    rintro _ _ ⟨bo, hbo, rfl, rfl⟩
    have hK0 := GC.start (ofs := List.replicate (seeG l).names.length 0) hGl hSG hbo
    revert hK0
    generalize hp0.upd bo (some (.row (ints (List.replicate (seeG l).names.length 0)))) = hp1
    intro hK0
    refine AL_als rfl rfl rfl rfl rfl rfl al32 rfl rfl rfl rfl rfl ?_
    refine AL_nil ?_
    refine ⟨T28, (.lit (.int .i64 ((gs.length : Nat) : Int))), hK0.len rfl un28 rfl, ?_⟩
    refine AW_it [(10, 3)] [(9, 1), (9, 2)] [(2, _), (3, _), (6, _), (7, _), (8, _), (39, _), (40, _)] (fun (z_ : Nat × List GR × List Int × Heap) => match z_ with | (i, gs1, ofs, hp) => [(41, .lit (.int .i64 ((i : Nat) : Int)))]) (fun (z_ : Nat × List GR × List Int × Heap) => match z_ with | (i, gs1, ofs, hp) => hp) (fun (z_ : Nat × List GR × List Int × Heap) => match z_ with | (i, gs1, ofs, hp) => i ≤ out.length ∧ GC h hp vg gs1 bo ofs ∧ gs1.map GR.l = ((out.take i).map (srtG (seeG l)) ++ (out.drop i).map id).map nI ∧ (∀ x ∈ gs1, x.ok) ∧ OfOk out i ofs (seeG l).names.length) (fun (z_ : Nat × List GR × List Int × Heap) => match z_ with | (i, gs1, ofs, hp) => out.length - i) ((0, gs, List.replicate (seeG l).names.length 0, hp1)) ⟨rfl, rfl, rfl, rfl, rfl, rfl, rfl, trivial⟩ ⟨rfl, trivial⟩ rfl (⟨by omega, hK0, by rw [hgo]; simp, hgok, ⟨by simp, fun c C _ hc => absurd hc (by omega)⟩⟩) ?_
    rintro ⟨i, gs1, ofs, hp⟩ ⟨hIi, hK, hgs1, hok1, hO1⟩
    have hg1l : gs1.length = out.length := by
      have := congrArg List.length hgs1
      simp at this; omega
    refine brD (fun hc8 => ?_) (fun hc8 => ?_)
    · skip
      obtain ⟨C, hC, -, hCm⟩ := drop_at (l := out) (i := i) (by omega)
      obtain ⟨⟨yb, yl, yns⟩, hy, -, hym⟩ := drop_at (l := gs1) (i := i) (by omega)
      have hyl : yl = nI C := by
        have h3 := congrArg (fun z => z[i]?) hgs1
        simp only [mid_get hC, List.getElem?_map, hy, Option.map_some, Option.some.injEq] at h3
        exact h3
      subst hyl
      have hyk := hok1 _ hym
      have hyk2 := hyk.2
      simp only [nI_len] at hyk2
      obtain ⟨bg, cap, rest, hvg, hbg⟩ := hK.out (i := i) (by omega)
      have hyr := hK.row hy
      have hCl := hparts.lt C hCm
      have hCs := hparts.small hCm
      have hSl := (srtG_perm (seeG l) C).length_eq
      have hnl : (nI C).length = C.length := nI_len C
      have hmp : 0 < (seeG l).names.length := by
        obtain ⟨x, hx⟩ := List.exists_mem_of_ne_nil _ (hparts.scc C hCm).1
        have := hCl x hx
        omega
      have hy2 : (gs1.set i (GR.mk yb (nI (srtG (seeG l) C)) (nI (srtG (seeG l) C) ++ yns.drop C.length)))[i]? = some (GR.mk yb (nI (srtG (seeG l) C)) (nI (srtG (seeG l) C) ++ yns.drop C.length)) := by rw [List.getElem?_set, if_pos rfl, if_pos (by omega)]
      refine ⟨(.ptr bg i), PO_ixj rfl un28 ty32 (congrArg some hvg) rfl (by omega), (.ms yb 0 1 ((nI C).length) yns.length), PO_load_row rfl ty32 rfl hbg (gr_load hy), (.fn (.func 15) [] [.ip [.ip (eGraph (seeG l))]]), PO_makeFunc rfl rfl rfl, ?_⟩
      refine AL_m rfl rfl rfl (MO_call rfl rfl rfl (sortG2_ hnd C (by omega) hCl hyr hyk (by omega))) ?_
      rintro _ _ ⟨rfl, rfl⟩
      have hK2 := hK.sort (l2 := nI (srtG (seeG l) C)) (ns2 := nI (srtG (seeG l) C) ++ yns.drop C.length) hy (by rw [nI_len, nI_len, hSl]) (by rw [List.length_append, nI_len, hSl, List.length_drop]; omega)
      revert hK2
      generalize hp.upd yb (some (.row (ints (nI (srtG (seeG l) C) ++ yns.drop C.length)))) = hp2
      intro hK2
      refine AL_nil ?_
      refine ⟨L32, ?_⟩
      refine AW_it [] [(13, 0), (13, 1), (14, 3)] [(41, _), (2, _), (3, _), (6, _), (7, _), (8, _), (39, _), (40, _), (9, _), (49, _), (50, _)] (fun (z_ : Nat × List Int × Heap) => match z_ with | (k, ofs2, hp) => [(51, .lit (.int .i64 ((k : Nat) : Int)))]) (fun (z_ : Nat × List Int × Heap) => match z_ with | (k, ofs2, hp) => hp) (fun (z_ : Nat × List Int × Heap) => match z_ with | (k, ofs2, hp) => k ≤ (nI C).length ∧ ofs2 = setAll ofs ((i : Nat) : Int) ((srtG (seeG l) C).take k) ∧ GC h hp vg (gs1.set i (GR.mk yb (nI (srtG (seeG l) C)) (nI (srtG (seeG l) C) ++ yns.drop C.length))) bo ofs2) (fun (z_ : Nat × List Int × Heap) => match z_ with | (k, ofs2, hp) => (nI C).length - k) ((0, ofs, hp2)) ⟨rfl, rfl, rfl, rfl, rfl, rfl, rfl, rfl, rfl, rfl, rfl, trivial⟩ ⟨rfl, trivial⟩ rfl (⟨by omega, rfl, hK2⟩) ?_
      rintro ⟨k, ofs2, hp⟩ ⟨hIk, he2, hK3⟩
      have ho2 : ofs2.length = (seeG l).names.length := by rw [he2, setAll_len]; exact hO1.len
      refine brD (fun hc12 => ?_) (fun hc12 => ?_)
      · skip
        obtain ⟨z, hz, -, hzm⟩ := drop_at (l := srtG (seeG l) C) (i := k) (by omega)
        have hzM := hCl z ((srtG_perm _ C).mem_iff.1 hzm)
        have hyr3 := hK3.row hy2
        refine ⟨(.ptr yb (0 + k)), PO_ixo rfl un32 ty3 rfl rfl (by omega), (.lit (.int .i64 ((z : Nat) : Int))), PO_ldo rfl ty3 rfl (PartI_of (A := []) (C := srtG (seeG l) C) hyr3 (List.take_left' rfl)) (nI_get hz), T32, (.ptr bo z), PO_ixj rfl un32 ty3 rfl rfl (by omega), ?_⟩
        refine AL_u rfl rfl (MO_stn rfl ty3 rfl rfl hK3.of (by omega)) ?_
        rintro _ _ ⟨-, rfl⟩
        have hK4 := hK3.put (ofs2 := ofs2.set z ((i : Nat) : Int))
        revert hK4
        generalize hp.upd bo (some (.row (ints (ofs2.set z ((i : Nat) : Int))))) = hp4
        intro hK4
        refine AL_nil ?_
        refine ⟨_, f1 (by first | omega | (simp_all <;> omega)), ?_⟩
        exact ⟨(k + 1, ofs2.set z ((i : Nat) : Int), hp4), ⟨by omega, by rw [List.take_add_one, hz, Option.toList_some, setAll_snoc, ← he2], hK4⟩, by simp only []; omega, ⟨rfl, ⟨rfl, rfl, rfl, rfl, rfl, rfl, rfl, rfl, rfl, rfl, rfl, rfl, trivial⟩, rfl, rfl, rfl⟩⟩
      · skip
        rw [List.take_of_length_le (by omega)] at he2
        refine ⟨_, f1 (by first | omega | (simp_all <;> omega)), ?_⟩
        exact ⟨(i + 1, gs1.set i (GR.mk yb (nI (srtG (seeG l) C)) (nI (srtG (seeG l) C) ++ yns.drop C.length)), ofs2, hp), ⟨by omega, hK3, by rw [List.map_set, hgs1, ← List.map_set, mid_set hC], fun x hx => by
            rcases List.mem_or_eq_of_mem_set hx with hx | rfl
            · exact hok1 x hx
            · exact ⟨List.take_left' rfl, by simp⟩, he2 ▸ hO1.next hC hparts.nd hparts.lt⟩, by simp only []; omega, ⟨rfl, ⟨rfl, rfl, rfl, rfl, rfl, rfl, rfl, rfl, trivial⟩, rfl, rfl, rfl⟩⟩
    · skip
      have hie : i = out.length := by omega
      have hgs2 : gs1.map GR.l = glOf (seeG l) out := by rw [hgs1, hie, List.take_length, List.drop_length]; simp [glOf]
      have hO2 : OfOk out out.length ofs (seeG l).names.length := hie ▸ hO1
      have hcg := cg_of hok hparts hO2
      refine AW_seq ?_
      refine AW_frzG (k7 := 7) (k8 := 8) rfl rfl hO2.len (Nat.le_refl _) hK hok1 (by decide) fun hp3 hle3 => ?_
      obtain ⟨gl, hgle⟩ : ∃ gl, gl = glOf (seeG l) out := ⟨_, rfl⟩
      rw [hgs2, ← hgle]
      rw [← hgle] at hcg
      have hgll := hcg.len
      refine AW_xr [] [] ?_
      refine ⟨1, ?_⟩
      refine AW_x [] [] ?_
      refine ⟨T28, L28, _, lm, ?_⟩
      refine AL_m rfl rfl rfl (MO_sMkB (L1 := []) (L2 := []) rfl un80 ty4 z4 by4 rfl rfl (by omega) (by omega) ⟨by simp, (fun p hp => by cases hp), hle3⟩) ?_
      rintro _ hp5 ⟨bd, rfl, hSd⟩
      refine AL_als rfl rfl rfl rfl rfl rfl al80 rfl rfl rfl rfl rfl ?_
      refine AL_nil ?_
      refine ⟨(.fn (.func 17) [] [.ip [.sl .any 1 (gl.map (fun l => [.sl .any 1 (l.map eI64)]))], .ip [.ip (eGraph (seeG l))], .ip [.sl .any 1 (ofs.map eI64)], .ip [.ms bd 0 1 gl.length gl.length]]), PO_makeFunc rfl rfl rfl, T28, L28, _, lm, ?_⟩
      refine AW_it [(36, 0)] [(29, 2)] [(2, _), (3, _), (6, _), (7, _), (14, _), (15, _), (66, _)] (fun (z_ : Nat × List Bool × List (List Term) × Own × Heap × Heap) => match z_ with | (r, dn, acc, own, hq, hp) => [(67, .lit (.int .i64 ((r : Nat) : Int))), (13, .sl own 1 (acc.map (fun l => [.sl .any 3 (l.map eTerm)])))]) (fun (z_ : Nat × List Bool × List (List Term) × Own × Heap × Heap) => match z_ with | (r, dn, acc, own, hq, hp) => hp) (fun (z_ : Nat × List Bool × List (List Term) × Own × Heap × Heap) => match z_ with | (r, dn, acc, own, hq, hp) => r ≤ gl.length ∧ ansF (seeG l) ofs gl gl.length (List.replicate gl.length false) [] = ansF (seeG l) ofs gl (gl.length - r) dn acc ∧ dn.length = gl.length ∧ dn.count false + r = gl.length ∧ acc.length = r ∧ Sep h hq [(bd, .row (bools dn))] ∧ Grow hq 1 acc.length own hp) (fun (z_ : Nat × List Bool × List (List Term) × Own × Heap × Heap) => match z_ with | (r, dn, acc, own, hq, hp) => gl.length - r) ((0, List.replicate gl.length false, [], .nil, hp5, hp5)) ⟨rfl, rfl, rfl, rfl, rfl, rfl, rfl, trivial⟩ ⟨rfl, rfl, trivial⟩ rfl (⟨by omega, rfl, by simp, by simp, rfl, hSd, Grow.nil _ _ _⟩) ?_
      rintro ⟨r, dn, acc, own, hq, hp⟩ ⟨hIr, hA, hdl, hct, hal, hSq, hG⟩
      refine brD (fun hc21 => ?_) (fun hc21 => ?_)
      · skip
        have hfm : false ∈ dn := List.count_pos_iff.1 (by omega)
        obtain ⟨hl0, D, hD, hDr⟩ := hcg.least hdl hfm
        refine ⟨T28, L28, _, lm, ?_⟩
        refine AW_it [] [(26, 2)] [(67, _), (13, _), (2, _), (3, _), (6, _), (7, _), (14, _), (15, _), (66, _), (70, _)] (fun (z_ : Nat × Int) => match z_ with | (c, cur) => [(71, .lit (.int .i64 ((c : Nat) : Int))), (16, .lit (.int .i64 cur))]) (fun (z_ : Nat × Int) => match z_ with | (c, cur) => hp) (fun (z_ : Nat × Int) => match z_ with | (c, cur) => c ≤ gl.length ∧ leastL (seeG l) ofs dn gl 0 gl (-1) = leastL (seeG l) ofs dn gl c (gl.drop c) cur ∧ (cur = -1 ∨ 0 ≤ cur ∧ cur.toNat < gl.length)) (fun (z_ : Nat × Int) => match z_ with | (c, cur) => gl.length - c) ((0, -1)) ⟨rfl, rfl, rfl, rfl, rfl, rfl, rfl, rfl, rfl, rfl, trivial⟩ ⟨rfl, rfl, trivial⟩ rfl (⟨by omega, rfl, .inl rfl⟩) ?_
        rintro ⟨c, cur⟩ ⟨hIc, hL, hcu⟩
        refine brD (fun hc24 => ?_) (fun hc24 => ?_)
        · skip
          obtain ⟨C, hC, hCd, hCm⟩ := drop_at (l := gl) (i := c) (by omega)
          rw [hCd, leastL] at hL
          obtain ⟨hCne, hCl, hCx⟩ := hcg.mem C hCm
          obtain ⟨hCh, hC0⟩ := hd_mem hCne
          have hChx := hCx _ hCh
          refine ⟨⟨hmixed, by kernel_rfl⟩, (.lit (.bool (readyF (seeG l) ofs dn c C))), PO_callH rfl rfl rfl (ready_ (seeG l) hok gl ofs dn bd c C _ (by omega) hC (by omega) (fun x hx => by have := hCx x hx; omega) hcg.ofl hcg.ofb (hG.le _ _ (hSq.get 0 rfl)) hdl), _, fun hg77 => ⟨((lessT (nmA (seeG l) (C.headD 0).toNat) (nmA (seeG l) ((gl.getD cur.toNat []).headD 0).toNat)) : Bool), fun hg80 => by
                        have hcur0 := of_decide_eq_false hg80
                        have hcr := hcu.resolve_left (by omega)
                        have hDg : gl[cur.toNat]? = some (gl.getD cur.toNat []) := by rw [List.getD_eq_getElem?_getD, List.getElem?_eq_getElem hcr.2]; rfl
                        have hD9 : (gl.map fun l => [.sl .any 1 (l.map eI64)])[cur.toNat]? = some [AV.sl .any 1 ((gl.getD cur.toNat []).map eI64)] := by rw [List.getElem?_map, hDg]; rfl
                        obtain ⟨hDne9, -, hDx9⟩ := hcg.mem _ (List.mem_of_getElem? hDg)
                        obtain ⟨hDh, hD0⟩ := hd_mem hDne9
                        have hDhx := hDx9 _ hDh
                        exact ⟨T56, F62_0, T37, T28, L28, _, ⟨rfl, (by first | decide | omega), (mget hC)⟩, T32, L32, _, ⟨rfl, (by first | decide | omega), hC0⟩, T3, L37, _, ⟨rfl, (by first | decide | omega), (nm_at hChx)⟩, T25, T56, F62_0, T37, T28, L28, _, ⟨rfl, (by first | decide | omega), hD9⟩, T32, L32, _, ⟨rfl, (by first | decide | omega), hD0⟩, T3, L37, _, ⟨rfl, (by first | decide | omega), (nm_at hDhx)⟩, T25, _, (less_ _ _), rfl⟩, rfl⟩, fun hc26 => ?_, fun hc26 => ?_⟩
          · skip
            rw [if_pos hc26] at hL
            refine ⟨_, f1 (by first | omega | (simp_all <;> omega)), ?_⟩
            exact ⟨(c + 1, ((c : Nat) : Int)), ⟨by omega, hL, .inr ⟨by omega, by omega⟩⟩, by simp only []; omega, ⟨rfl, ⟨rfl, rfl, rfl, rfl, rfl, rfl, rfl, rfl, rfl, rfl, rfl, rfl, trivial⟩, rfl, rfl, rfl⟩⟩
          · skip
            rw [if_neg (by rw [hc26]; simp)] at hL
            refine ⟨_, f1 (by first | omega | (simp_all <;> omega)), ?_⟩
            exact ⟨(c + 1, cur), ⟨by omega, hL, hcu⟩, by simp only []; omega, ⟨rfl, ⟨rfl, rfl, rfl, rfl, rfl, rfl, rfl, rfl, rfl, rfl, rfl, rfl, trivial⟩, rfl, rfl, rfl⟩⟩
        · skip
          rw [drop_end (by omega), leastL] at hL
          rw [hL] at hl0 hD hDr
          have hDm := List.mem_of_getElem? hD
          obtain ⟨hDne, hDl, hDx⟩ := hcg.mem D hDm
          have hcl := (List.getElem?_eq_some_iff.1 hD).1
          have hdc := ((readyF_iff _ _ _ _ _).1 hDr).2
          refine ⟨T80, (.ptr bd cur.toNat), PO_ixn (i := cur) rfl un80 ty4 rfl rfl (by omega) (by omega), ?_⟩
          refine AL_u rfl rfl (MO_dn rfl ty4 rfl rfl hSq hG (by omega)) ?_
          rintro _ hp7 ⟨-, hq, hSq, hG⟩
          refine AL_nil ?_
          refine ⟨3, T28, L28, _, ⟨rfl, (by first | decide | omega), (gmap hD)⟩, T32, L32, _, lm, ?_⟩
          refine AW_it [] [] [(67, _), (13, _), (2, _), (3, _), (6, _), (7, _), (14, _), (15, _), (66, _), (116, _), (117, _)] (fun (z_ : Nat × List Term × Own × Heap) => match z_ with | (k, acc2, ownb, hp6) => [(118, .lit (.int .i64 ((k : Nat) : Int))), (18, .sl ownb 3 (acc2.map eTerm))]) (fun (z_ : Nat × List Term × Own × Heap) => match z_ with | (k, acc2, ownb, hp6) => hp6) (fun (z_ : Nat × List Term × Own × Heap) => match z_ with | (k, acc2, ownb, hp6) => k ≤ D.length ∧ acc2 = nmsA (seeG l) (D.take k) ∧ Grow hp7 3 acc2.length ownb hp6) (fun (z_ : Nat × List Term × Own × Heap) => match z_ with | (k, acc2, ownb, hp6) => D.length - k) ((0, [], .nil, hp7)) ⟨rfl, rfl, rfl, rfl, rfl, rfl, rfl, rfl, rfl, rfl, rfl, trivial⟩ ⟨rfl, rfl, trivial⟩ rfl (⟨by omega, rfl, Grow.nil _ _ _⟩) ?_
          rintro ⟨k, acc2, ownb, hp6⟩ ⟨hIk, hacc, hGb⟩
          have hacl : acc2.length ≤ 1048576 := by rw [hacc, nmsA, List.length_map, List.length_take]; omega
          refine brD (fun hc32 => ?_) (fun hc32 => ?_)
          · skip
            obtain ⟨x, hx, -, hxm⟩ := drop_at (l := D) (i := k) (by omega)
            have hxx := hDx x hxm
            refine ⟨L32, _, ⟨rfl, (by first | decide | omega), (mget hx)⟩, T3, T56, F62_0, T37, L37, _, ⟨rfl, (by first | decide | omega), (nm_at hxx)⟩, T25, (.sl .full 3 ([(nmA (seeG l) x.toNat)].map eTerm)), PO_buildSlice (n := 1) (S := 3) (rs := eTerm (nmA (seeG l) x.toNat) ++ []) rfl un37 ty25 z25 rfl rfl rfl (by decide) rfl (by decide), ?_⟩
            refine AL_m rfl rfl rfl (MO_grow (acc := acc2) (f := eTerm) rfl un37 un37 ty25 z25 rfl by25 rfl rfl (.inl rfl) (by first | omega | simp) hGb (by simp; omega) (by simp; omega)) ?_
            rintro _ h1 ⟨own1, rfl, hG1⟩
            refine AL_x [] [] 10 ?_
            refine ⟨_, f1 (by first | omega | (simp_all <;> omega)), ?_⟩
            exact ⟨(k + 1, acc2 ++ [nmA (seeG l) x.toNat], own1, h1), ⟨by omega, by rw [List.take_add_one, hx, Option.toList_some, nmsA, List.map_append, hacc]; rfl, hG1⟩, by simp only []; omega, ⟨rfl, ⟨rfl, rfl, rfl, rfl, rfl, rfl, rfl, rfl, rfl, rfl, rfl, rfl, rfl, trivial⟩, rfl, rfl, rfl⟩⟩
          · skip
            rw [List.take_of_length_le (by omega)] at hacc
            refine AW_ghost (ghost_ungrow (k := 18) rfl hGb) ?_
            refine AW_xr [] [] ?_
            refine ⟨(.sl .full 1 ([acc2].map (fun l => [.sl .any 3 (l.map eTerm)]))), PO_buildSlice (n := 1) (S := 1) (rs := [.sl .any 3 (acc2.map eTerm)] ++ []) rfl un52 ty37 z37 rfl rfl rfl (by decide) rfl (by decide), ?_⟩
            refine AL_m rfl rfl rfl (MO_grow (acc := acc) (f := (fun l => [.sl .any 3 (l.map eTerm)])) rfl un52 un52 ty37 z37 rfl by37 rfl rfl (.inl rfl) (by first | omega | simp) hG (by simp; omega) (by simp; omega)) ?_
            rintro _ h2 ⟨own2, rfl, hG2⟩
            refine AL_x [] [] 4 ?_
            refine ⟨_, f1 (by first | omega | (simp_all <;> omega)), ?_⟩
            exact ⟨(r + 1, dn.set cur.toNat true, acc ++ [acc2], own2, hq, h2), ⟨by omega, by
                rw [hA, show gl.length - r = (gl.length - (r + 1)) + 1 by omega, ansF, hL, List.getD_eq_getElem?_getD, hD, Option.getD_some, hacc], by rw [List.length_set]; exact hdl, by have := countF_set dn cur.toNat (by omega) hdc; omega, by simp; omega, hSq, hG2⟩, by simp only []; omega, ⟨rfl, ⟨rfl, rfl, rfl, rfl, rfl, rfl, rfl, rfl, rfl, trivial⟩, rfl, rfl, rfl⟩⟩
      · skip
        rw [show gl.length - r = 0 by omega, ansF] at hA
        refine AW_any (k := 2) rfl ?_
        refine AW_ret ?_
        exact ret_R (.inl rfl) rfl ⟨hSq.le.trans hG.le, .inr ⟨hp0z, out, ofs, hparts, hO2, by rw [← hgle, hA]⟩⟩
end Go.AM.Tryd
end
section
set_option maxRecDepth 100000
set_option linter.unusedVariables false
set_option linter.unusedSimpArgs false
namespace Go.AM.Tryd
open Go Go.AM Go.AM.D
def CompA (l : List Rule) (cs : List (List Term)) : Prop := ∃ out ofs, Parts (seeG l) out ∧ OfOk out out.length ofs (seeG l).names.length ∧ cs = ansF (seeG l) ofs (glOf (seeG l) out) (glOf (seeG l) out).length (List.replicate (glOf (seeG l) out).length false) []
def RefA (l : List Rule) (cs : List (List Term)) : Prop := ∃ ns done, ns.Perm (predF l []) ∧ SortedTo ns.length ns ∧ RefS l ns done cs ∧ ns.length ≤ done.length
theorem CompR.form {l : List Rule} {a : AV} (h : CompR l a) : ∃ cs, a = .tup [.sl .any 1 (cs.map fun ts => [.sl .any 3 (ts.map eTerm)]), .lit (.int .i64 (progU l))] ∧ (progU l ≠ 0 → cs = []) ∧ (progU l = 0 → CompA l cs) := by
  rcases h with ⟨h1, rfl⟩ | ⟨h1, out, ofs, h2, h3, rfl⟩
  · exact ⟨[], rfl, fun _ => rfl, fun e => absurd e h1⟩
  · exact ⟨_, by rw [h1], fun e => absurd h1 e, fun _ => ⟨out, ofs, h2, h3, rfl⟩⟩
theorem RefR.form {l : List Rule} {a : AV} (h : RefR l a) : ∃ cs, a = .sl .any 1 (cs.map fun ts => [.sl .any 3 (ts.map eTerm)]) ∧ RefA l cs := by
  obtain ⟨ns, done, acc, h1, h2, h3, h4, rfl⟩ := h
  exact ⟨acc, rfl, ns, done, h1, h2, h3, h4⟩
theorem ansF_len (g : Graph) (ofs : List Int) (gl : List (List Int)) : ∀ (k : Nat) (dn : List Bool) (a : List (List Term)), (ansF g ofs gl k dn a).length = a.length + k
  | 0, _, _ => rfl
  | k + 1, dn, a => by rw [ansF, ansF_len g ofs gl k]; simp; omega
theorem ansF_mem (g : Graph) (ofs : List Int) (gl : List (List Int)) {m : Nat} (hm : ∀ C ∈ gl, C.length ≤ m) : ∀ (k : Nat) (dn : List Bool) (a : List (List Term)), (∀ ts ∈ a, ts.length ≤ m) → ∀ ts ∈ ansF g ofs gl k dn a, ts.length ≤ m
  | 0, _, _, h => h
  | k + 1, dn, a, h => by
    rw [ansF]
    refine ansF_mem g ofs gl hm k _ _ fun ts hts => ?_
    rcases List.mem_append.1 hts with hts | hts
    · exact h ts hts
    · rw [List.mem_singleton] at hts
      subst hts
      rw [nmsA, List.length_map, List.getD_eq_getElem?_getD]
      cases e : gl[(leastL g ofs dn gl 0 gl (-1)).toNat]? with
      | none => simp
      | some C => exact hm C (List.mem_of_getElem? e)
theorem CompA.small {l : List Rule} {cs : List (List Term)} (h : CompA l cs) (hok : okG (seeG l)) : cs.length ≤ 1048576 ∧ ∀ ts ∈ cs, ts.length ≤ 1048576 := by
  obtain ⟨out, ofs, hp, ho, rfl⟩ := h
  have hcg := cg_of hok hp ho
  have := hok.1
  have := hcg.len
  refine ⟨by rw [ansF_len]; simp only [List.length_nil]; omega, ansF_mem _ _ _ (fun C hC => Nat.le_trans (hcg.mem C hC).2.1 hok.1) _ _ _ (by simp)⟩
end Go.AM.Tryd
end
section
set_option maxRecDepth 100000
set_option maxHeartbeats 4000000
set_option linter.unusedVariables false
set_option linter.unusedSimpArgs false
namespace Go.AM.Tryd
open Go Go.AM Go.AM.D
theorem law153_ (l : List Rule) (hl : okRs l) (hlaw : okG (seeG l) → progU l = 0 → ∀ a b, CompA l a → RefA l b → a = b) : PFn PR (.fn (.func 3) [] []) [.sl .any 13 (l.map eRule)] (.lit (.bool true)) := by
  have hl1 := hl.1
  refine PFn_of Go.Proofs.Tryz.func3 rfl (by rfl) Go.Proofs.Tryz.ntmps3 rfl (by simp) fun h => ?_
  refine AW_x [(3, 2), (9, 2)] [] ?_
  refine ⟨_, (few_ _ (by first | assumption | omega)), fun hc1 => ?_, fun hc1 => ?_⟩
  · skip
    refine ⟨_, known_, ?_⟩
    exact AW_ret (ret_le2 (.inl rfl) rfl rfl (.refl _))
  · skip
    have hfew : (fewF l && decide (l.length ≤ 16)) = true := by simpa using hc1
    have hf2 := hfew
    rw [Bool.and_eq_true, decide_eq_true_eq] at hf2
    have h16 := hf2.2
    have hbods : bods l ≤ 1048576 := by have := few_bods hf2.1; omega
    refine AL_m rfl rfl rfl (MO_call rfl rfl rfl (comps_ l hl hbods _)) ?_
    rintro cv hp1 ⟨hle1, hC⟩
    obtain ⟨cs, rfl, hcs0, hcs1⟩ := hC.form
    refine AL_x [] [] 2 ?_
    refine ⟨_, (prog13_ _ (by assumption)), brD (fun hc5 => ?_) (fun hc5 => ?_)⟩
    · skip
      exact absurd (prog_eq l) hc5
    · skip
      refine brD (fun hc7 => ?_) (fun hc7 => ?_)
      · skip
        have hcs := hcs0 (by rw [prog_eq]; exact hc7)
        refine ⟨L52, _, lm, _, fun hg28 => ⟨_, known_, rfl⟩, ?_⟩
        refine AW_ret ?_
        exact ret_le2 (.inl rfl) rfl (by rw [hcs]; rfl) hle1
      · skip
        have hz0 : progU l = 0 := by rw [prog_eq]; exact Decidable.not_not.1 hc7
        refine AL_m rfl rfl rfl (MO_call rfl rfl rfl (compsR_ l hl _)) ?_
        rintro rv hp2 ⟨hle2, hR⟩
        obtain ⟨cs2, rfl, hR2⟩ := hR.form
        obtain ⟨hsm1, hsm2⟩ := (hcs1 hz0).small (okG_see hl1 hbods)
        have ecs := hlaw (okG_see hl1 hbods) hz0 cs cs2 (hcs1 hz0) hR2
        subst ecs
        refine AL_x [] [] 2 ?_
        refine ⟨L52, _, lm, L52, _, lm, brD (fun hc10 => ?_) (fun hc10 => ?_)⟩
        · skip
          exact absurd rfl hc10
        · skip
          refine AW_it [] [] [(2, _), (3, _), (6, _)] (fun (i : Nat) => [(7, .lit (.int .i64 ((i : Nat) : Int)))]) (fun (i : Nat) => hp2) (fun (i : Nat) => i ≤ cs.length) (fun (i : Nat) => cs.length - i) (0) ⟨rfl, rfl, rfl, trivial⟩ ⟨rfl, trivial⟩ rfl (by omega) ?_
          intro i hIi
          refine ⟨L52, _, lm, brD (fun hc13 => ?_) (fun hc13 => ?_)⟩
          · skip
            obtain ⟨ts, hts, -, htsm⟩ := drop_at (l := cs) (i := i) (by omega)
            have hsm3 := hsm2 ts htsm
            refine ⟨⟨hmixed, by kernel_rfl⟩, L52, _, ⟨rfl, (by first | decide | omega), (mget hts)⟩, T37, L37, _, lm, L52, _, ⟨rfl, (by first | decide | omega), (mget hts)⟩, T37, L37, _, lm, brD (fun hc15 => ?_) (fun hc15 => ?_)⟩
            · skip
              exact absurd rfl hc15
            · skip
              refine AW_it [] [] [(7, _), (2, _), (3, _), (6, _)] (fun (j : Nat) => [(8, .lit (.int .i64 ((j : Nat) : Int)))]) (fun (j : Nat) => hp2) (fun (j : Nat) => j ≤ ts.length) (fun (j : Nat) => ts.length - j) (0) ⟨rfl, rfl, rfl, rfl, trivial⟩ ⟨rfl, trivial⟩ rfl (by omega) ?_
              intro j hIj
              refine ⟨L52, _, ⟨rfl, (by first | decide | omega), (mget hts)⟩, T37, L37, _, lm, brD (fun hc18 => ?_) (fun hc18 => ?_)⟩
              · skip
                obtain ⟨t, ht, -, htm⟩ := drop_at (l := ts) (i := j) (by omega)
                refine ⟨⟨hmixed, by kernel_rfl⟩, L52, _, ⟨rfl, (by first | decide | omega), (mget hts)⟩, T37, L37, _, ⟨rfl, (by first | decide | omega), (mget ht)⟩, T25, L52, _, ⟨rfl, (by first | decide | omega), (mget hts)⟩, T37, L37, _, ⟨rfl, (by first | decide | omega), (mget ht)⟩, T25, _, r25 t t, brD (fun hc20 => ?_) (fun hc20 => ?_)⟩
                · skip
                  exact absurd rfl hc20
                · skip
                  refine ⟨_, f1 (by first | omega | (simp_all <;> omega)), ?_⟩
                  exact ⟨j + 1, by omega, by omega, ⟨rfl, ⟨rfl, rfl, rfl, rfl, rfl, trivial⟩, rfl, rfl, rfl⟩⟩
              · skip
                refine ⟨_, f1 (by first | omega | (simp_all <;> omega)), ?_⟩
                exact ⟨i + 1, by omega, by omega, ⟨rfl, ⟨rfl, rfl, rfl, rfl, trivial⟩, rfl, rfl, rfl⟩⟩
          · skip
            refine ⟨_, known_, ?_⟩
            refine AW_ret ?_
            exact ret_le2 (.inl rfl) rfl rfl (hle1.trans hle2)
end Go.AM.Tryd
end
section
set_option maxRecDepth 100000
set_option linter.unusedVariables false
set_option linter.unusedSimpArgs false
namespace Go.AM.Tryd
open Go Go.AM Go.AM.D Go.AM.Tarjan
theorem negB_of {x : Lt} : ∀ {b : List Lt}, x ∈ b → x.kind = 2 → negB b = true
  | y :: b, hx, hk => by
    rw [negB]
    rcases List.mem_cons.1 hx with rfl | hx
    · rw [if_pos hk]
    · split
      · rfl
      · exact negB_of hx hk
theorem no_var {l : List Rule} (h : progU l = 0) : ∀ r ∈ l, ∀ x ∈ r.body, x.kind = 2 → x.pat.b.var = ⟨#[]⟩ := by
  intro r hr x hx hk
  have hn : negF l ≠ false := by rw [negF_of hr (negB_of hx hk)]; simp
  exact notB_none (notL_none (progR_not (by rw [← prog_eq]; exact h) hn) r hr) x hx hk
section
variable {l : List Rule}
theorem adj_iff (hv2 : ∀ r ∈ l, ∀ x ∈ r.body, x.kind = 2 → x.pat.b.var = ⟨#[]⟩) {i k : Nat} (hi : i < (predF l []).length) (hk : k < (predF l []).length) : k ∈ adjG (seeG l) i ↔ hangF (nmA (seeG l) i) (nmA (seeG l) k) false l = true := by
  have hnd := predF_nodup l [] (by simp)
  have gi : (predF l [])[i]? = some (nmA (seeG l) i) := nmA_get (g := seeG l) hi
  have gk : (predF l [])[k]? = some (nmA (seeG l) k) := nmA_get (g := seeG l) hk
  have inj : ∀ {a b : Nat} {t : Term}, (predF l [])[a]? = some t → (predF l [])[b]? = some t → a = b := fun h1 h2 => (List.getElem?_inj (List.getElem?_eq_some_iff.1 h1).1 hnd).1 (h1.trans h2.symm)
  have hadj : k ∈ adjG (seeG l) i ↔ ∃ e, (∃ es, (seeG l).out[i]? = some es ∧ e ∈ es) ∧ e.to.toNat = k := by
    rw [adjG, List.mem_map, List.getD_eq_getElem?_getD]
    cases (seeG l).out[i]? with
    | none => simp
    | some es => simp
  rw [hadj, hangF_iff]
  constructor
  · rintro ⟨e, he, hek⟩
    obtain ⟨-, r, hr, hv, ht, x, hx, hex⟩ := (mem_see l i e).1 he
    have h1 := lookI_at (predF_has (acc := []) hr hv)
    rw [ht] at h1
    refine ⟨r, hr, hv, Option.some.inj (h1.symm.trans gi), (hangL_iff _ _ _).2 ⟨x, hx, ?_⟩⟩
    rw [edgeL] at hex
    split at hex
    · cases hex
    · rename_i hkd
      have hkd : x.kind = 1 ∨ x.kind = 2 := by
        by_cases h : x.kind = 1
        · exact .inl h
        · by_cases h2 : x.kind = 2
          · exact .inr h2
          · exact absurd (by simp [h, h2]) hkd
      split at hex
      · rename_i hv3
        have h1 : x.kind = 1 := hkd.resolve_right fun e => hv3 (hv2 r hr x hx e)
        exact .inl ⟨h1, rfl, .inl hv3⟩
      · rename_i hv3
        have hv3 := Decidable.not_not.1 hv3
        split at hex
        · rename_i hlb
          rw [List.mem_singleton] at hex
          subst hex
          simp only at hek
          have hat : atF x.pat.b.term (predF l []) 0 ≠ -1 := by
            simp only [lookB, decide_eq_true_eq] at hlb; omega
          have h2 := lookI_at hat
          rw [hek] at h2
          have h3 : x.pat.b.term = nmA (seeG l) k := Option.some.inj (h2.symm.trans gk)
          rcases hkd with h | h
          · exact .inl ⟨h, rfl, .inr h3⟩
          · exact .inr ⟨h, hv3, h3⟩
        · cases hex
  · rintro ⟨r, hr, hv, ht, hb⟩
    obtain ⟨x, hx, hc⟩ := (hangL_iff _ _ _).1 hb
    have h1 := lookI_at (predF_has (acc := []) hr hv)
    rw [ht] at h1
    have hi2 : (lookI r.head.b.term (predF l [])).toNat = i := by rw [ht]; exact inj h1 gi
    have hkm : nmA (seeG l) k ∈ predF l [] := List.mem_of_getElem? gk
    have hlk := lookI_lt (atF_mem hkm)
    have hkk : (lookI (nmA (seeG l) k) (predF l [])).toNat = k := inj (lookI_at (atF_mem hkm)) gk
    have hlB : lookB (nmA (seeG l) k) (predF l []) = true := by simp only [lookB, decide_eq_true_eq]; omega
    have key : ∀ e, e ∈ edgeL (predF l []) x → e.to.toNat = k → ∃ e, (∃ es, (seeG l).out[i]? = some es ∧ e ∈ es) ∧ e.to.toNat = k := fun e he h2 => ⟨e, (mem_see l i e).2 ⟨hi, r, hr, hv, hi2, x, hx, he⟩, h2⟩
    rcases hc with ⟨h1, -, h3⟩ | ⟨h1, h2, h3⟩
    · by_cases hv3 : x.pat.b.var = ⟨#[]⟩
      · have h4 := h3.resolve_left (fun e => e hv3)
        exact key ⟨lookI x.pat.b.term (predF l []), decide (x.kind = 2)⟩ (by rw [edgeL, if_neg (by simp [h1]), if_neg (fun e => e hv3), h4, if_pos hlB]; simp) (by rw [h4]; exact hkk)
      · exact key ⟨(k : Int), false⟩ (by
          rw [edgeL, if_neg (by simp [h1]), if_pos hv3, List.mem_map]
          exact ⟨k, List.mem_range.2 hk, rfl⟩) (by simp)
    · exact key ⟨lookI x.pat.b.term (predF l []), decide (x.kind = 2)⟩ (by rw [edgeL, if_neg (by simp [h1]), if_neg (fun e => e h2), h3, if_pos hlB]; simp) (by rw [h3]; exact hkk)
theorem adj_lt (hok : okG (seeG l)) {i k : Nat} (h : k ∈ adjG (seeG l) i) : k < (predF l []).length ∧ i < (predF l []).length := by
  rw [adjG, List.mem_map, List.getD_eq_getElem?_getD] at h
  obtain ⟨e, he, rfl⟩ := h
  cases hes : (seeG l).out[i]? with
  | none => rw [hes] at he; cases he
  | some es =>
    rw [hes] at he
    have := (hok.2.2 es (List.mem_of_getElem? hes)).2 e he
    have hi := (List.getElem?_eq_some_iff.1 hes).1
    rw [hok.2.1] at hi
    exact ⟨by change _ < (seeG l).names.length; omega, hi⟩
theorem rch_iff (hok : okG (seeG l)) (hv2 : ∀ r ∈ l, ∀ x ∈ r.body, x.kind = 2 → x.pat.b.var = ⟨#[]⟩) {ns : List Term} (hp : ns.Perm (predF l [])) {i k : Nat} (hi : i < (predF l []).length) (hk : k < (predF l []).length) :
    Rch (adjG (seeG l)) i k ↔ i = k ∨ TGT l ns (nmA (seeG l) i) (nmA (seeG l) k) := by
  constructor
  · intro h
    induction h with
    | refl x => exact .inl rfl
    | @step x y z e _ ih =>
      have hy := (adj_lt hok e).1
      have h1 : EdgeT l ns (nmA (seeG l) x) (nmA (seeG l) y) := ⟨hp.mem_iff.2 (List.mem_of_getElem? (nmA_get (g := seeG l) hy)), (adj_iff hv2 hi hy).1 e⟩
      rcases ih hy hk with rfl | h
      · exact .inr (.single h1)
      · exact .inr ((Relation.TransGen.single h1).trans h)
  · rintro (rfl | h)
    · exact .refl _
    · have key : ∀ t, TGT l ns (nmA (seeG l) i) t → ∃ k, k < (predF l []).length ∧ t = nmA (seeG l) k ∧ Rch (adjG (seeG l)) i k := fun t ht => by
        induction ht with
        | @single t e =>
          obtain ⟨k, hk⟩ := List.mem_iff_getElem?.1 (hp.mem_iff.1 e.1)
          have hkl := (List.getElem?_eq_some_iff.1 hk).1
          have e2 : t = nmA (seeG l) k := Option.some.inj (hk.symm.trans (nmA_get (g := seeG l) hkl))
          subst e2
          exact ⟨k, hkl, rfl, .one ((adj_iff hv2 hi hkl).2 e.2)⟩
        | @tail s t _ e ih =>
          obtain ⟨j, hj, rfl, hr⟩ := ih
          obtain ⟨k, hk⟩ := List.mem_iff_getElem?.1 (hp.mem_iff.1 e.1)
          have hkl := (List.getElem?_eq_some_iff.1 hk).1
          have e2 : t = nmA (seeG l) k := Option.some.inj (hk.symm.trans (nmA_get (g := seeG l) hkl))
          subst e2
          exact ⟨k, hkl, rfl, hr.trans (.one ((adj_iff hv2 hj hkl).2 e.2))⟩
      obtain ⟨k', hk', e, hr⟩ := key _ h
      have := nmA_inj (g := seeG l) (predF_nodup l [] (by simp)) hk hk' e
      subst this; exact hr
end
abbrev SL (l : List Term) : Prop := l.Pairwise fun a b => cmpT a b < 0
theorem sl_ext : ∀ {l m : List Term}, SL l → SL m → (∀ x, x ∈ l ↔ x ∈ m) → l = m
  | [], [], _, _, _ => rfl
  | [], y :: m, _, _, h => absurd ((h y).2 (List.mem_cons_self ..)) (by simp)
  | x :: l, [], _, _, h => absurd ((h x).1 (List.mem_cons_self ..)) (by simp)
  | x :: l, y :: m, hl, hm, h => by
    rw [SL, List.pairwise_cons] at hl hm
    have e : x = y := by
      rcases List.mem_cons.1 ((h x).1 (List.mem_cons_self ..)) with e | h1
      · exact e
      · rcases List.mem_cons.1 ((h y).2 (List.mem_cons_self ..)) with e | h2
        · exact e.symm
        · have := hl.1 y h2; have := hm.1 x h1; have := cmpT_ok.sym x y; omega
    subst e
    refine congrArg _ (sl_ext hl.2 hm.2 fun z => ?_)
    constructor
    · intro hz
      rcases List.mem_cons.1 ((h z).1 (List.mem_cons_of_mem _ hz)) with rfl | h1
      · have := hl.1 z hz; have := cmpT_ok.self z; omega
      · exact h1
    · intro hz
      rcases List.mem_cons.1 ((h z).2 (List.mem_cons_of_mem _ hz)) with rfl | h1
      · have := hm.1 z hz; have := cmpT_ok.self z; omega
      · exact h1
theorem sorted_sl {ns : List Term} (hn : ns.Nodup) (h : SortedTo ns.length ns) : SL ns := by
  rw [SL, List.pairwise_iff_getElem]
  intro i j hi hj hij
  have h1 := h i j ns[i] ns[j] hi hij (List.getElem?_eq_getElem hi) (List.getElem?_eq_getElem hj)
  simp only [lessT, decide_eq_false_iff_not, Int.not_lt] at h1
  have h2 := cmpT_ok.sym ns[j] ns[i]
  by_cases e : cmpT ns[i] ns[j] = 0
  · have := cmpT_ok.zero _ _ e
    have := (List.getElem_inj hn).1 this
    omega
  · omega
theorem srtG_sl {g : Graph} (hnd : g.names.Nodup) {C : List Nat} (hC : C.Nodup) (hl : ∀ x ∈ C, x < g.names.length) : SL ((srtG g C).map (nmA g)) := by
  have hp := srtG_perm g C
  have hs : (srtG g C).Pairwise fun x y => (!decide (orderT (nmA g y) (nmA g x) < 0)) = true := by
    refine List.pairwise_mergeSort (fun a b c h k => ?_) (fun a b => ?_) C
    · simp only [orderT_neg, Bool.not_eq_true', decide_eq_false_iff_not, Int.not_lt] at h k ⊢
      have h1 : lessT (nmA g b) (nmA g a) = false := by simp [lessT]; omega
      have h2 : lessT (nmA g c) (nmA g b) = false := by simp [lessT]; omega
      have := lessT_ntrans h1 h2
      simp [lessT] at this; omega
    · simp only [orderT_neg, Bool.or_eq_true, Bool.not_eq_true', decide_eq_false_iff_not, Int.not_lt]
      have := cmpT_ok.sym (nmA g a) (nmA g b)
      omega
  have hn : (srtG g C).Nodup := hp.nodup_iff.2 hC
  rw [SL, List.pairwise_map]
  refine (hs.and hn).imp_of_mem fun {a b} ha hb h => ?_
  have h1 := h.1
  simp only [orderT_neg, Bool.not_eq_true', decide_eq_false_iff_not, Int.not_lt] at h1
  have h2 := cmpT_ok.sym (nmA g b) (nmA g a)
  by_cases e : cmpT (nmA g a) (nmA g b) = 0
  · have := nmA_inj hnd (hl a (hp.mem_iff.1 ha)) (hl b (hp.mem_iff.1 hb)) (cmpT_ok.zero _ _ e)
    exact absurd this h.2
  · omega
end Go.AM.Tryd
end
section
set_option maxRecDepth 100000
set_option linter.unusedVariables false
set_option linter.unusedSimpArgs false
namespace Go.AM.Tryd
open Go Go.AM Go.AM.D Go.AM.Tarjan
theorem lessT_self (a : Term) : lessT a a = false := by simp [lessT, cmpT_ok.self a]
theorem leastL_min (g : Graph) (ofs : List Int) (dn : List Bool) (gl : List (List Int)) : ∀ (l : List (List Int)) (c : Nat) (cur : Int), gl.drop c = l →
    (∀ k C, k < c → gl[k]? = some C → readyF g ofs dn k C = true → 0 ≤ cur ∧ lessT (hdT g C) (hdT g (gl.getD cur.toNat [])) = false) →
    ∀ k C, gl[k]? = some C → readyF g ofs dn k C = true → lessT (hdT g C) (hdT g (gl.getD (leastL g ofs dn gl c l cur).toNat [])) = false
  | [], c, cur, hd, hc => fun k C hC hr => by
    have hk := (List.getElem?_eq_some_iff.1 hC).1
    have h2 := congrArg List.length hd
    simp at h2
    exact (hc k C (by omega) hC hr).2
  | C :: l, c, cur, hd, hc => by
    have hC : gl[c]? = some C := by
      have := congrArg (fun z => z[0]?) hd
      simpa [List.getElem?_drop] using this
    have hgC : gl.getD c [] = C := by rw [List.getD_eq_getElem?_getD, hC]; rfl
    have hd2 : gl.drop (c + 1) = l := by rw [← List.drop_drop, hd]; rfl
    rw [leastL]
    by_cases hq : (readyF g ofs dn c C && (decide (cur < 0) || lessT (hdT g C) (hdT g (gl.getD cur.toNat [])))) = true
    · rw [if_pos hq]
      rw [Bool.and_eq_true, Bool.or_eq_true, decide_eq_true_eq] at hq
      refine leastL_min g ofs dn gl l (c + 1) c hd2 fun k D hk hD hr => ⟨by omega, ?_⟩
      rw [Int.toNat_natCast, hgC]
      by_cases e : k = c
      · subst e; rw [hC] at hD; cases hD; exact lessT_self _
      · obtain ⟨h1, h2⟩ := hc k D (by omega) hD hr
        exact lessT_ntrans (lessT_asym (hq.2.resolve_left (by omega))) h2
    · rw [if_neg hq]
      refine leastL_min g ofs dn gl l (c + 1) cur hd2 fun k D hk hD hr => ?_
      by_cases e : k = c
      · subst e
        rw [hC] at hD; cases hD
        rw [hr] at hq
        simp only [Bool.true_and, Bool.or_eq_true, decide_eq_true_eq, not_or, Bool.not_eq_true] at hq
        exact ⟨by omega, hq.2⟩
      · exact hc k D (by omega) hD hr
section
variable {l : List Rule} {out : List (List Nat)} {ofs : List Int} {ns : List Term}
theorem nmsA_nI (g : Graph) (C : List Nat) : nmsA g (nI C) = C.map (nmA g) := by simp [nmsA, nI, Function.comp_def]
theorem ns_at (hp : ns.Perm (predF l [])) {t : Term} (h : t ∈ ns) : ∃ k, k < (predF l []).length ∧ t = nmA (seeG l) k := by
  obtain ⟨k, hk⟩ := List.mem_iff_getElem?.1 (hp.mem_iff.1 h)
  have hkl := (List.getElem?_eq_some_iff.1 hk).1
  exact ⟨k, hkl, Option.some.inj (hk.symm.trans (nmA_get (g := seeG l) hkl))⟩
theorem at_ns (hp : ns.Perm (predF l [])) {k : Nat} (h : k < (predF l []).length) : nmA (seeG l) k ∈ ns := hp.mem_iff.2 (List.mem_of_getElem? (nmA_get (g := seeG l) h))
theorem grp_mem (hok : okG (seeG l)) (hv2 : ∀ r ∈ l, ∀ x ∈ r.body, x.kind = 2 → x.pat.b.var = ⟨#[]⟩) (hp : ns.Perm (predF l [])) (hP : Parts (seeG l) out) {C : List Nat} (hC : C ∈ out) {z w : Nat} (hz : z ∈ C) (hw : w < (predF l []).length) :
    nmA (seeG l) w ∈ grpT l ns (nmA (seeG l) z) ↔ w ∈ C := by
  have hzl : z < (predF l []).length := hP.lt C hC z hz
  have hnd : (seeG l).names.Nodup := predF_nodup l [] (by simp)
  rw [grpT_mem, (hP.scc C hC).2 z hz w, rch_iff hok hv2 hp hzl hw, rch_iff hok hv2 hp hw hzl]
  constructor
  · rintro ⟨-, e | ⟨h1, h2⟩⟩
    · have := nmA_inj hnd hw hzl e
      exact ⟨.inl this.symm, .inl this⟩
    · exact ⟨.inr h1, .inr h2⟩
  · rintro ⟨h1, h2⟩
    refine ⟨at_ns hp hw, ?_⟩
    rcases h1 with rfl | h1
    · exact .inl rfl
    · rcases h2 with rfl | h2
      · exact .inl rfl
      · exact .inr ⟨h1, h2⟩
theorem grp_eq (hok : okG (seeG l)) (hv2 : ∀ r ∈ l, ∀ x ∈ r.body, x.kind = 2 → x.pat.b.var = ⟨#[]⟩) (hp : ns.Perm (predF l [])) (hs : SL ns) (hP : Parts (seeG l) out) {C : List Nat} (hC : C ∈ out) {z : Nat} (hz : z ∈ C) :
    grpT l ns (nmA (seeG l) z) = (srtG (seeG l) C).map (nmA (seeG l)) := by
  have hnd : (seeG l).names.Nodup := predF_nodup l [] (by simp)
  refine sl_ext (hs.filter _) (srtG_sl hnd ((List.pairwise_flatten.1 hP.nd).1 C hC) (hP.lt C hC)) fun x => ?_
  constructor
  · intro hx
    obtain ⟨k, hk, rfl⟩ := ns_at hp (grpT_mem.1 hx).1
    exact List.mem_map.2 ⟨k, (srtG_perm _ C).mem_iff.2 ((grp_mem hok hv2 hp hP hC hz hk).1 hx), rfl⟩
  · intro hx
    obtain ⟨k, hk, rfl⟩ := List.mem_map.1 hx
    have hk := (srtG_perm _ C).mem_iff.1 hk
    exact (grp_mem hok hv2 hp hP hC hz (hP.lt C hC k hk)).2 hk
structure SameSt (l : List Rule) (out : List (List Nat)) (ofs : List Int) (ns done : List Term) (acc : List (List Term)) (dn : List Bool) : Prop where
  len : dn.length = out.length
  cnt : dn.count false + acc.length = out.length
  cor : ∀ (c : Nat) (C : List Nat), out[c]? = some C → ∀ z ∈ C, (dn.getD c false = true ↔ nmA (seeG l) z ∈ done)
  sub : ∀ n ∈ done, n ∈ ns
  nd : done.Nodup
  cl : ∀ n ∈ done, ∀ m, TGT l ns n m → m ∈ done
  ans : ansF (seeG l) ofs (glOf (seeG l) out) (glOf (seeG l) out).length (List.replicate (glOf (seeG l) out).length false) [] = ansF (seeG l) ofs (glOf (seeG l) out) ((glOf (seeG l) out).length - acc.length) dn acc
theorem tgt_in {a b : Term} (h : TGT l ns a b) : b ∈ ns := by
  cases h with
  | single e => exact e.1
  | tail _ e => exact e.1
theorem ready_pick (hok : okG (seeG l)) (hv2 : ∀ r ∈ l, ∀ x ∈ r.body, x.kind = 2 → x.pat.b.var = ⟨#[]⟩) (hp : ns.Perm (predF l [])) (hP : Parts (seeG l) out) (hO : OfOk out out.length ofs (seeG l).names.length)
    {done : List Term} {acc : List (List Term)} {dn : List Bool} (h : SameSt l out ofs ns done acc dn) {c : Nat} {C : List Nat} (hC : out[c]? = some C) {z : Nat} (hz : z ∈ C) :
    readyF (seeG l) ofs dn c (nI (srtG (seeG l) C)) = true ↔ pickX l ns done (nmA (seeG l) z) = true := by
  have hCm := List.mem_of_getElem? hC
  have hzl : z < (predF l []).length := hP.lt C hCm z hz
  rw [readyF_iff, pickX_iff]
  have edge : ∀ {y : Nat} {e : Edg}, y < (predF l []).length → e ∈ (seeG l).out.getD y [] → e.to.toNat ∈ adjG (seeG l) y := fun _ he => List.mem_map.2 ⟨_, he, rfl⟩
  constructor
  · rintro ⟨h1, h2⟩
    refine ⟨fun hd => ?_, fun n hn => ?_⟩
    · rw [(h.cor c C hC z hz).2 hd] at h2; cases h2
    · obtain ⟨m, hm, rfl⟩ := ns_at hp hn
      by_cases ht : TGT l ns (nmA (seeG l) z) (nmA (seeG l) m)
      · have hr := (rch_iff hok hv2 hp hzl hm).2 (.inr ht)
        have key := hr.closed (D := fun y => y < (predF l []).length ∧ (y ∈ C ∨ nmA (seeG l) y ∈ done)) (fun y hy w hw => ?_) ⟨hzl, .inl hz⟩
        · rcases key.2 with k | k
          · exact .inl ((grp_mem hok hv2 hp hP hCm hz hm).2 k)
          · exact .inr (.inl k)
        · have hwl := (adj_lt hok hw).1
          refine ⟨hwl, ?_⟩
          rcases hy.2 with k | k
          · obtain ⟨e, he, rfl⟩ := List.mem_map.1 hw
            obtain ⟨c', C', hC', hwC⟩ := hP.cov _ hwl
            have ho := hO.of c' C' hC' (List.getElem?_eq_some_iff.1 hC').1 _ hwC
            have := h1 ((y : Nat) : Int) (List.mem_map.2 ⟨y, (srtG_perm _ C).mem_iff.2 k, rfl⟩) e (by rw [Int.toNat_natCast]; exact he)
            rw [ho, Int.toNat_natCast] at this
            rcases this with e1 | e1
            · have : c' = c := by omega
              subst this
              rw [hC] at hC'; cases hC'
              exact .inl hwC
            · exact .inr ((h.cor c' C' hC' _ hwC).1 e1)
          · exact .inr (h.cl _ k _ (.single ⟨at_ns hp hwl, (adj_iff hv2 hy.1 hwl).1 hw⟩))
      · exact .inr (.inr ht)
  · rintro ⟨h1, h2⟩
    refine ⟨fun x hx e he => ?_, ?_⟩
    · obtain ⟨y, hy, rfl⟩ := List.mem_map.1 hx
      rw [Int.toNat_natCast] at he
      have hy := (srtG_perm _ C).mem_iff.1 hy
      have hyl : y < (predF l []).length := hP.lt C hCm y hy
      have hw := edge hyl he
      have hwl := (adj_lt hok hw).1
      obtain ⟨c', C', hC', hwC⟩ := hP.cov _ hwl
      have ho := hO.of c' C' hC' (List.getElem?_eq_some_iff.1 hC').1 _ hwC
      rw [ho, Int.toNat_natCast]
      by_cases e1 : c' = c
      · exact .inl (by omega)
      · right
        have hr : Rch (adjG (seeG l)) z e.to.toNat := (((hP.scc C hCm).2 z hz y).1 hy).1.trans (.one hw)
        have hne : z ≠ e.to.toNat := fun e2 => e1 (parts_apart hP.nd hC' hC hwC (e2 ▸ hz))
        have ht := ((rch_iff hok hv2 hp hzl hwl).1 hr).resolve_left hne
        rcases h2 _ (at_ns hp hwl) with k | k | k
        · exact absurd (parts_apart hP.nd hC' hC hwC ((grp_mem hok hv2 hp hP hCm hz hwl).1 k)) e1
        · exact (h.cor c' C' hC' _ hwC).2 k
        · exact absurd ht k
    · cases hd : dn.getD c false with
      | false => rfl
      | true => exact absurd ((h.cor c C hC z hz).1 hd) h1
theorem head_least (hP : Parts (seeG l) out) {C : List Nat} (hC : C ∈ out) : ∃ z ∈ C, hdT (seeG l) (nI (srtG (seeG l) C)) = nmA (seeG l) z ∧ ∀ y ∈ C, lessT (nmA (seeG l) y) (nmA (seeG l) z) = false := by
  have hnd : (seeG l).names.Nodup := predF_nodup l [] (by simp)
  have hs := srtG_sl hnd ((List.pairwise_flatten.1 hP.nd).1 C hC) (hP.lt C hC)
  have hp := srtG_perm (seeG l) C
  cases hS : srtG (seeG l) C with
  | nil =>
    rw [hS] at hp
    exact absurd (List.perm_nil.1 hp.symm) (hP.scc C hC).1
  | cons z r =>
    rw [hS] at hs hp
    rw [List.map_cons, SL, List.pairwise_cons] at hs
    refine ⟨z, hp.mem_iff.1 (List.mem_cons_self ..), by simp [hdT, nI], fun y hy => ?_⟩
    rcases List.mem_cons.1 (hp.mem_iff.2 hy) with rfl | hy
    · exact lessT_self _
    · exact lessT_asym ((lessT_iff _ _).2 (hs.1 _ (List.mem_map_of_mem hy)))
end
end Go.AM.Tryd
end
section
set_option maxRecDepth 100000
set_option linter.unusedVariables false
set_option linter.unusedSimpArgs false
namespace Go.AM.Tryd
open Go Go.AM Go.AM.D Go.AM.Tarjan
theorem lessT_eq {a b : Term} (h : lessT a b = false) (k : lessT b a = false) : a = b := by
  simp only [lessT, decide_eq_false_iff_not, Int.not_lt] at h k
  have := cmpT_ok.sym a b
  exact cmpT_ok.zero _ _ (by omega)
section
variable {l : List Rule} {out : List (List Nat)} {ofs : List Int} {ns : List Term}
theorem same_start : SameSt l out ofs ns [] [] (List.replicate out.length false) := by
  refine ⟨by simp, by simp, fun c C hC z hz => ?_, by simp, by simp, by simp, by rw [glOf_len]; simp⟩
  have hcl := (List.getElem?_eq_some_iff.1 hC).1
  simp [List.getD_eq_getElem?_getD, hcl]
theorem same_step (hok : okG (seeG l)) (hv2 : ∀ r ∈ l, ∀ x ∈ r.body, x.kind = 2 → x.pat.b.var = ⟨#[]⟩) (hp : ns.Perm (predF l [])) (hs : SortedTo ns.length ns) (hP : Parts (seeG l) out) (hO : OfOk out out.length ofs (seeG l).names.length)
    {done : List Term} {acc : List (List Term)} {dn : List Bool} (h : SameSt l out ofs ns done acc dn) {i : Nat} {x : Term} (hx : ns[i]? = some x) (hno : ∀ (k : Nat) (y : Term), k < i → ns[k]? = some y → pickX l ns done y = false) (hpk : pickX l ns done x = true) :
    ∃ dn', SameSt l out ofs ns (done ++ grpT l ns x) (acc ++ [grpT l ns x]) dn' := by
  have hnP : (predF l []).Nodup := predF_nodup l [] (by simp)
  have hnd : (seeG l).names.Nodup := hnP
  have hnn : ns.Nodup := hp.nodup_iff.2 hnP
  have hsl := sorted_sl hnn hs
  have hcg := cg_of hok hP hO
  obtain ⟨k, hk, rfl⟩ := ns_at hp (List.mem_of_getElem? hx)
  obtain ⟨c0, C0, hC0, hk0⟩ := hP.cov k hk
  have hC0m := List.mem_of_getElem? hC0
  have hdnl : dn.length = (glOf (seeG l) out).length := by rw [glOf_len]; exact h.len
  have hr0 := (ready_pick hok hv2 hp hP hO h hC0 hk0).2 hpk
  have hd0 := ((readyF_iff _ _ _ _ _).1 hr0).2
  have hc0l := (List.getElem?_eq_some_iff.1 hC0).1
  have hfm : false ∈ dn := by
    have : dn[c0]? = some (dn[c0]'(by rw [h.len]; exact hc0l)) := List.getElem?_eq_getElem _
    rw [List.getD_eq_getElem?_getD, this, Option.getD_some] at hd0
    rw [hd0] at this
    exact List.mem_of_getElem? this
  obtain ⟨hc1, D, hD, hDr⟩ := hcg.least hdnl hfm
  have hmin := leastL_min (seeG l) ofs dn (glOf (seeG l) out) (glOf (seeG l) out) 0 (-1) rfl (fun k C hk => absurd hk (by omega))
  generalize hcur : leastL (seeG l) ofs dn (glOf (seeG l) out) 0 (glOf (seeG l) out) (-1) = cur at hc1 hD hDr hmin
  have hc1l : cur.toNat < out.length := by have := (List.getElem?_eq_some_iff.1 hD).1; rwa [glOf_len] at this
  have hC1 : out[cur.toNat]? = some out[cur.toNat] := List.getElem?_eq_getElem hc1l
  generalize out[cur.toNat] = C1 at hC1
  have hC1m := List.mem_of_getElem? hC1
  have hDe : D = nI (srtG (seeG l) C1) := Option.some.inj (hD.symm.trans (glOf_get hC1))
  subst hDe
  obtain ⟨z1, hz1, hh1, hl1⟩ := head_least hP hC1m
  obtain ⟨z0, hz0, hh0, hl0⟩ := head_least hP hC0m
  have hz1l : z1 < (predF l []).length := hP.lt C1 hC1m z1 hz1
  have hp1 := (ready_pick hok hv2 hp hP hO h hC1 hz1).1 hDr
  have hm := hmin c0 _ (glOf_get hC0) hr0
  rw [List.getD_eq_getElem?_getD, hD, Option.getD_some, hh1, hh0] at hm
  have hx1 : lessT (nmA (seeG l) z1) (nmA (seeG l) k) = false := by
    obtain ⟨i1, hi1⟩ := List.mem_iff_getElem?.1 (at_ns hp hz1l)
    by_cases e : i1 < i
    · rw [hno i1 _ e hi1] at hp1; cases hp1
    · by_cases e2 : i1 = i
      · subst e2; rw [hx] at hi1; rw [Option.some.inj hi1]; exact lessT_self _
      · exact hs i i1 _ _ (List.getElem?_eq_some_iff.1 hx).1 (by omega) hx hi1
  have hx2 : lessT (nmA (seeG l) k) (nmA (seeG l) z1) = false := lessT_ntrans hm (hl0 k hk0)
  have hkz : k = z1 := nmA_inj hnd hk hz1l (lessT_eq hx2 hx1)
  subst hkz
  have hcc : c0 = cur.toNat := parts_apart hP.nd hC0 hC1 hk0 hz1
  subst hcc
  rw [hC0] at hC1; cases hC1
  have hg := grp_eq hok hv2 hp hsl hP hC0m hk0
  have hpx := pickX_iff.1 hpk
  have hcf : 0 < dn.count false := List.count_pos_iff.2 hfm
  have hcs := countF_set dn cur.toNat (by rw [h.len]; exact hc0l) hd0
  have hcnt := h.cnt
  have gin : ∀ {w : Nat}, w < (predF l []).length → (nmA (seeG l) w ∈ grpT l ns (nmA (seeG l) k) ↔ w ∈ C0) := fun hw => grp_mem hok hv2 hp hP hC0m hk0 hw
  refine ⟨dn.set cur.toNat true, by rw [List.length_set]; exact h.len, by rw [List.length_append, List.length_singleton]; omega, fun c C hC z hz => ?_, fun n hn => ?_, ?_, fun n hn m ht => ?_, ?_⟩
  · have hzl : z < (predF l []).length := hP.lt C (List.mem_of_getElem? hC) z hz
    rw [List.mem_append, gin hzl, bset (by rw [h.len]; exact hc0l)]
    by_cases e : cur.toNat = c
    · subst e
      rw [hC0] at hC; cases hC
      simp [hz]
    · rw [if_neg e, h.cor c C hC z hz]
      have : z ∉ C0 := fun hz2 => e (parts_apart hP.nd hC0 hC hz2 hz)
      simp [this]
  · rcases List.mem_append.1 hn with hn | hn
    · exact h.sub n hn
    · exact (grpT_mem.1 hn).1
  · rw [List.nodup_append]
    refine ⟨h.nd, hnn.filter _, fun a ha b hb e => ?_⟩
    subst e
    rcases (grpT_mem.1 hb).2 with rfl | ⟨-, h2⟩
    · exact hpx.1 ha
    · exact hpx.1 (h.cl _ ha _ h2)
  · rcases List.mem_append.1 hn with hn | hn
    · exact List.mem_append_left _ (h.cl n hn m ht)
    · have hxm : TGT l ns (nmA (seeG l) k) m := by
        rcases (grpT_mem.1 hn).2 with rfl | ⟨h1, -⟩
        · exact ht
        · exact h1.trans ht
      rcases hpx.2 m (tgt_in ht) with k1 | k1 | k1
      · exact List.mem_append_right _ k1
      · exact List.mem_append_left _ k1
      · exact absurd hxm k1
  · rw [h.ans, List.length_append, List.length_singleton, show (glOf (seeG l) out).length - acc.length = ((glOf (seeG l) out).length - (acc.length + 1)) + 1 by rw [glOf_len]; omega, ansF, hcur, List.getD_eq_getElem?_getD, hD, Option.getD_some, nmsA_nI, hg]
theorem same_all (hok : okG (seeG l)) (hv2 : ∀ r ∈ l, ∀ x ∈ r.body, x.kind = 2 → x.pat.b.var = ⟨#[]⟩) (hp : ns.Perm (predF l [])) (hs : SortedTo ns.length ns) (hP : Parts (seeG l) out) (hO : OfOk out out.length ofs (seeG l).names.length)
    {done : List Term} {acc : List (List Term)} (h : RefS l ns done acc) : ∃ dn, SameSt l out ofs ns done acc dn := by
  induction h with
  | nil => exact ⟨_, same_start⟩
  | pick _ hx hno hpk ih =>
    obtain ⟨dn, hdn⟩ := ih
    exact same_step hok hv2 hp hs hP hO hdn hx hno hpk
end
theorem comps_law (l : List Rule) (hok : okG (seeG l)) (hz : progU l = 0) (a b : List (List Term)) (ha : CompA l a) (hb : RefA l b) : a = b := by
  obtain ⟨out, ofs, hP, hO, rfl⟩ := ha
  obtain ⟨ns, done, hp, hs, hR, hd⟩ := hb
  have hv2 := no_var hz
  obtain ⟨dn, h⟩ := same_all hok hv2 hp hs hP hO hR
  have hnn : ns.Nodup := hp.nodup_iff.2 (predF_nodup l [] (by simp))
  have hall : ∀ t ∈ ns, t ∈ done := fun t ht => by
    by_cases e : t ∈ done
    · exact e
    · have := nodup_len (t :: done) ns (List.nodup_cons.2 ⟨e, h.nd⟩) (fun y hy => by
        rcases List.mem_cons.1 hy with rfl | hy
        · exact ht
        · exact h.sub y hy)
      simp only [List.length_cons] at this; omega
  have hf : dn.count false = 0 := by
    refine List.count_eq_zero.2 fun hm => ?_
    obtain ⟨c, hc⟩ := List.mem_iff_getElem?.1 hm
    have hcl : c < out.length := by rw [← h.len]; exact (List.getElem?_eq_some_iff.1 hc).1
    have hC : out[c]? = some out[c] := List.getElem?_eq_getElem hcl
    obtain ⟨z, hz⟩ := List.exists_mem_of_ne_nil _ (hP.scc _ (List.mem_of_getElem? hC)).1
    have := (h.cor c _ hC z hz).2 (hall _ (at_ns hp (hP.lt _ (List.mem_of_getElem? hC) z hz)))
    rw [List.getD_eq_getElem?_getD, hc] at this
    cases this
  have hc := h.cnt
  rw [h.ans, glOf_len, show out.length - b.length = 0 by omega, ansF]
end Go.AM.Tryd
end
