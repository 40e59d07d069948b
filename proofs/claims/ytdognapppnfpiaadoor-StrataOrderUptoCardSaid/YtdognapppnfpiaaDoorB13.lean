/- A part of the proof: walks of the code and laws that they use (Ws, Nb, Wt, Nc, Nd, Am20, Wu, Ne, Wv, Am21, Nf, Ng). Conditions: as each theorem names them. -/
import Derived.Test.YtdognapppnfpiaaDoorB12
section
set_option maxRecDepth 100000
set_option linter.unusedVariables false
set_option linter.unusedSimpArgs false
namespace Go.AM.Tryd
open Go Go.AM Go.AM.D
theorem refnum_ (l : List Rule) (hl : okRs l) (h16 : l.length ≤ 16) : PFn PR (.fn (.func 9) [] []) [.sl .any 13 (l.map eRule)] (.tup [.sl .any 1 (((refN l).1).map eI64), .lit (.int .i64 ((refN l).2))]) := by
 have hl1 := hl.1
 have hPl : (predF l []).length ≤ 16 := by have := predF_len l []; simp at this; omega
 refine PFn_of Go.Proofs.Tryd.func9 rfl (by rfl) Go.Proofs.Tryd.ntmps9 rfl (by simp) fun h => ?_
 refine AW_seq (AW_region rfl ?_)
 refine qp (v := .sl .nil 1 []) (PO_nil_assign rfl) ?_
 refine qa (v := vi 0) ?_
 refine AL_nil (AW_seq (AW_seq (AW_region rfl ?_)))
 refine qm ?_
 refine qp (v := vi (progR l)) (PO_call rfl rfl rfl (prog13_ _ (by assumption))) ?_
 refine qa ?_
 refine AL_keep [(0,_),(2,_),(3,_),(4,_)] ⟨rfl,rfl,rfl,rfl,trivial⟩ ?_
 refine AL_nil (AW_seq (AW_region rfl ?_))
 refine qm ?_
 refine qp (v := vb (decide (((progR l) : Int) ≠ 0))) pI ?_
 refine AL_keep [(0,_),(2,_),(3,_),(4,_),(16,_)] ⟨rfl,rfl,rfl,rfl,rfl,trivial⟩ ?_
 refine AL_nil ?_
 refine AW_cond _ rfl (fun hc2 => ?_) (fun hc2 => ?_)
 ·replace hc2 := of_decide_eq_true hc2
  have hw : refN l = ([], progR l) := by rw [refN, if_pos hc2]
  refine AW_seq (AW_region rfl ?_)
  refine qm ?_
  refine qp (v := .sl .nil 1 []) (PO_nil_assign rfl) ?_
  refine qa ?_
  refine AL_keep [(0,_),(2,_),(3,_),(4,_)] ⟨rfl,rfl,rfl,rfl,trivial⟩ ?_
  refine AL_nil ?_
  refine AW_any (k := 2) rfl ?_
  refine AW_ret ?_
  exact ret_le2 (.inl rfl) rfl (by rw [hw]; rfl) (.refl _)
 ·replace hc2 := of_decide_eq_false hc2
  have hw : refN l = if negF l = false then (List.replicate (predF l []).length 1, 0) else ofV (numV (clR l (predF l [])) (predF l []).length) := by rw [refN, if_neg hc2]
  refine AW_skip (AW_seq (AW_region rfl ?_))
  refine qm ?_
  refine qp (v := vT (predF l [])) (PO_call rfl rfl rfl (pred_ _ (by first | assumption | omega))) ?_
  refine qa ?_
  refine AL_keep [(0,_),(2,_),(3,_),(4,_),(5,_)] ⟨rfl,rfl,rfl,rfl,rfl,trivial⟩ ?_
  refine AL_nil (AW_seq (AW_region rfl ?_))
  refine qm ?_
  refine qp (v := vi ((predF l []).length : Int)) (PO_lenM rfl un37 rfl) ?_
  refine AL_mkn rfl rfl rfl rfl un32 ty3 z3 by3 rfl rfl (by omega) (by omega) fun b hb => ?_
  refine qa ?_
  refine AL_keep [(0,_),(2,_),(3,_),(4,_),(5,_),(6,_)] ⟨rfl,rfl,rfl,rfl,rfl,rfl,trivial⟩ ?_
  refine AL_nil (AW_seq (AW_seq (AW_region rfl ?_)))
  refine qa (v := vi 0) ?_
  refine AL_nil (AW_block ?_)
  refine AW_iter (fun (i : Nat) => [(7, .lit (.int .i64 ((i : Nat) : Int))), (0, .sl .any 13 (l.map eRule)), (2, .sl .nil 1 []), (3, .lit (.int .i64 0)), (5, .sl .any 3 ((predF l []).map eTerm)), (6, .ms b 0 1 ((predF l []).length) ((predF l []).length))]) (fun (i : Nat) => (h.upd b (some (.row (ints (List.replicate i (1 : Int) ++ List.replicate ((predF l []).length - i) 0)))))) (fun (i : Nat) => i ≤ (predF l []).length) (fun (i : Nat) => (predF l []).length - i) (0) ⟨rfl, rfl, rfl, rfl, rfl, rfl, trivial⟩ (by simp) (by omega) ?_
  intro i hIi
  have hrl : (List.replicate i (1 : Int) ++ List.replicate ((predF l []).length - i) 0).length = (predF l []).length := by simp only [List.length_append, List.length_replicate]; omega
  refine AW_seq (AW_seq (AW_region rfl ?_))
  refine qm ?_
  refine qm ?_
  refine qp (v := vi ((predF l []).length : Int)) (PO_lenM rfl un37 rfl) ?_
  refine qp (v := vb (decide ((((i : Nat) : Int) : Int) < ((predF l []).length : Int)))) pI ?_
  refine AL_keep [(7,_),(0,_),(2,_),(3,_),(5,_),(6,_),(26,_)] ⟨rfl,rfl,rfl,rfl,rfl,rfl,rfl,trivial⟩ ?_
  refine AL_nil ?_
  refine AW_cond _ rfl (fun hc7 => ?_) (fun hc7 => ?_)
  ·replace hc7 := of_decide_eq_true hc7
   refine AW_skip (AW_seq (AW_block (AW_region rfl ?_)))
   refine qm ?_
   refine qm ?_
   refine qp (v := .ptr b i) (PO_ixj rfl un32 ty3 rfl rfl (by first | omega | (simp only [List.length_set]; omega))) ?_
   refine AL_stn (ns := (List.replicate i (1 : Int) ++ List.replicate ((predF l []).length - i) 0)) (j := i) (v := 1) rfl rfl rfl ty3 rfl rfl (by first | omega | (simp only [List.length_set]; omega)) ?_
   refine AL_keep [(7,_),(0,_),(2,_),(3,_),(5,_),(6,_)] ⟨rfl,rfl,rfl,rfl,rfl,rfl,trivial⟩ ?_
   refine AL_nil (AW_region rfl ?_)
   refine qm ?_
   refine qp (v := vn (i + 1)) (PO_inc rfl rfl rfl (by first | omega | simp_all; omega)) ?_
   refine qa ?_
   refine AL_keep [(7,_),(0,_),(2,_),(3,_),(5,_),(6,_)] ⟨rfl,rfl,rfl,rfl,rfl,rfl,trivial⟩ ?_
   refine AL_nil ?_
   exact ⟨i + 1, by omega, by omega, ⟨rfl, ⟨rfl, rfl, rfl, rfl, rfl, rfl, trivial⟩, (by rw [rep_set (by omega)]), rfl, rfl⟩⟩
  ·replace hc7 := of_decide_eq_false hc7
   refine AW_exit ?_
   refine AW_seq (AW_seq (AW_region rfl ?_))
   refine qm ?_
   refine qp (v := vb (negF l)) (PO_call rfl rfl rfl (neg17_ _ (by assumption))) ?_
   refine qp (v := vb (!(negF l))) (PO_not (b := (negF l)) rfl rfl) ?_
   refine AL_keep [(7,_),(0,_),(2,_),(3,_),(5,_),(6,_),(34,_)] ⟨rfl,rfl,rfl,rfl,rfl,rfl,rfl,trivial⟩ ?_
   refine AL_nil ?_
   refine AW_cond _ rfl (fun hc10 => ?_) (fun hc10 => ?_)
   ·rw [if_pos (by simpa using hc10)] at hw
    refine AW_seq (AW_region rfl ?_)
    refine qm ?_
    refine qa ?_
    refine qa (v := vi 0) ?_
    refine AL_keep [(7,_),(0,_),(2,_),(3,_),(5,_),(6,_)] ⟨rfl,rfl,rfl,rfl,rfl,rfl,trivial⟩ ?_
    refine AL_nil ?_
    refine AW_frzn (k := 2) rfl hb (by simp; omega) (by omega) ?_
    refine AW_ret ?_
    exact ret_le2 (.inl rfl) rfl (by rw [hw, rep_done (by omega)]) (.refl _)
   ·rw [if_neg (by simpa using hc10)] at hw
    refine AW_skip (AW_seq (AW_seq (AW_region rfl ?_)))
    refine qa (v := vi 0) ?_
    refine AL_nil (AW_block ?_)
    refine AW_iter (fun (z_ : List Int × Int) => match z_ with | (ns, rr) => [(8, .lit (.int .i64 rr)), (0, .sl .any 13 (l.map eRule)), (2, .sl .nil 1 []), (3, .lit (.int .i64 0)), (5, .sl .any 3 ((predF l []).map eTerm)), (6, .ms b 0 1 ((predF l []).length) ((predF l []).length))]) (fun (z_ : List Int × Int) => match z_ with | (ns, rr) => (h.upd b (some (.row (ints ns))))) (fun (z_ : List Int × Int) => match z_ with | (ns, rr) => 0 ≤ rr ∧ rr ≤ 1 ∧ Lo (predF l []).length ns ∧ Hi (predF l []).length ns ∧ Bel (clR l (predF l [])) (predF l []).length ns) (fun (z_ : List Int × Int) => match z_ with | (ns, rr) => room (predF l []).length ns (predF l []).length) ((List.replicate (predF l []).length 1, 0)) ⟨rfl, rfl, rfl, rfl, rfl, rfl, trivial⟩ (by rw [rep_done (by omega)]) (⟨by omega, by omega, rep_lo _, rep_hi _, rep_bel _ _⟩) ?_
    rintro ⟨ns, rr⟩ ⟨hr0, hr1, hLo, hHi, hBel⟩
    have hnl := hLo.1
    refine AW_seq (AW_seq (AW_region rfl ?_))
    refine qm ?_
    refine qm ?_
    refine qp (v := vi ((predF l []).length : Int)) (PO_lenM rfl un37 rfl) ?_
    refine qp (v := vn ((predF l []).length + 1)) (PO_inc rfl rfl rfl (by first | omega | simp_all; omega)) ?_
    refine qp (v := vb (decide ((rr : Int) ≤ (((predF l []).length + 1 : Nat) : Int)))) pI ?_
    refine AL_keep [(8,_),(0,_),(2,_),(3,_),(5,_),(6,_),(40,_)] ⟨rfl,rfl,rfl,rfl,rfl,rfl,rfl,trivial⟩ ?_
    refine AL_nil ?_
    refine AW_cond _ rfl (fun hc13 => ?_) (fun hc13 => ?_)
    ·replace hc13 := of_decide_eq_true hc13
     refine AW_skip (AW_seq (AW_block (AW_seq (AW_region rfl ?_))))
     refine qa (v := vb false) ?_
     refine AL_nil (AW_seq (AW_seq (AW_region rfl ?_)))
     refine qa (v := vi 0) ?_
     refine AL_nil (AW_block ?_)
     refine AW_iter (fun (z_ : Nat × List Int × Bool) => match z_ with | (i, n1, g) => [(10, .lit (.int .i64 ((i : Nat) : Int))), (9, .lit (.bool g)), (8, .lit (.int .i64 rr)), (0, .sl .any 13 (l.map eRule)), (2, .sl .nil 1 []), (3, .lit (.int .i64 0)), (5, .sl .any 3 ((predF l []).map eTerm)), (6, .ms b 0 1 ((predF l []).length) ((predF l []).length))]) (fun (z_ : Nat × List Int × Bool) => match z_ with | (i, n1, g) => (h.upd b (some (.row (ints n1))))) (fun (z_ : Nat × List Int × Bool) => match z_ with | (i, n1, g) => i ≤ (predF l []).length ∧ Rd (clR l (predF l [])) (predF l []).length ns n1 g ∧ (∀ j, j < (predF l []).length → n1.getD j 0 ≤ 16 + 16 * (i : Int)) ∧ (g = false → ∀ a b, a < i → b < (predF l []).length → cpair l (predF l []) ns a b)) (fun (z_ : Nat × List Int × Bool) => match z_ with | (i, n1, g) => (predF l []).length - i) ((0, ns, false)) ⟨rfl, rfl, rfl, rfl, rfl, rfl, rfl, rfl, trivial⟩ rfl (⟨by omega, .start hLo hBel, fun j hj => by have := hHi j hj; omega, fun _ a b ha => by omega⟩) ?_
     rintro ⟨i, n1, g⟩ ⟨hIi, hR1, hB1, hD1⟩
     have hn1 := hR1.lo.1
     refine AW_seq (AW_seq (AW_region rfl ?_))
     refine qm ?_
     refine qm ?_
     refine qp (v := vi ((predF l []).length : Int)) (PO_lenM rfl un37 rfl) ?_
     refine qp (v := vb (decide ((((i : Nat) : Int) : Int) < ((predF l []).length : Int)))) pI ?_
     refine AL_keep [(10,_),(9,_),(8,_),(0,_),(2,_),(3,_),(5,_),(6,_),(46,_)] ⟨rfl,rfl,rfl,rfl,rfl,rfl,rfl,rfl,rfl,trivial⟩ ?_
     refine AL_nil ?_
     refine AW_cond _ rfl (fun hc17 => ?_) (fun hc17 => ?_)
     ·replace hc17 := of_decide_eq_true hc17
      have hi : i < (predF l []).length := by omega
      refine AW_skip (AW_seq (AW_block (AW_seq (AW_region rfl ?_))))
      refine qa (v := vi 0) ?_
      refine AL_nil (AW_block ?_)
      refine AW_iter (fun (z_ : Nat × List Int × Bool) => match z_ with | (k, n2, g2) => [(11, .lit (.int .i64 ((k : Nat) : Int))), (9, .lit (.bool g2)), (10, .lit (.int .i64 ((i : Nat) : Int))), (8, .lit (.int .i64 rr)), (0, .sl .any 13 (l.map eRule)), (2, .sl .nil 1 []), (3, .lit (.int .i64 0)), (5, .sl .any 3 ((predF l []).map eTerm)), (6, .ms b 0 1 ((predF l []).length) ((predF l []).length))]) (fun (z_ : Nat × List Int × Bool) => match z_ with | (k, n2, g2) => (h.upd b (some (.row (ints n2))))) (fun (z_ : Nat × List Int × Bool) => match z_ with | (k, n2, g2) => k ≤ (predF l []).length ∧ Rd (clR l (predF l [])) (predF l []).length ns n2 g2 ∧ (∀ j, j < (predF l []).length → n2.getD j 0 ≤ 16 + 16 * (i : Int) + (k : Int)) ∧ (g2 = false → ∀ a b, a < i → b < (predF l []).length → cpair l (predF l []) ns a b) ∧ (g2 = false → ∀ b, b < k → cpair l (predF l []) ns i b)) (fun (z_ : Nat × List Int × Bool) => match z_ with | (k, n2, g2) => (predF l []).length - k) ((0, n1, g)) ⟨rfl, rfl, rfl, rfl, rfl, rfl, rfl, rfl, rfl, trivial⟩ rfl (⟨by omega, hR1, fun j hj => by have := hB1 j hj; omega, hD1, fun _ b hb => by omega⟩) ?_
      rintro ⟨k, n2, g2⟩ ⟨hIk, hR2, hB2, hD2, hD3⟩
      have hn2 := hR2.lo.1
      refine AW_seq (AW_seq (AW_region rfl ?_))
      refine qm ?_
      refine qm ?_
      refine qp (v := vi ((predF l []).length : Int)) (PO_lenM rfl un37 rfl) ?_
      refine qp (v := vb (decide ((((k : Nat) : Int) : Int) < ((predF l []).length : Int)))) pI ?_
      refine AL_keep [(11,_),(9,_),(10,_),(8,_),(0,_),(2,_),(3,_),(5,_),(6,_),(52,_)] ⟨rfl,rfl,rfl,rfl,rfl,rfl,rfl,rfl,rfl,rfl,trivial⟩ ?_
      refine AL_nil ?_
      refine AW_cond _ rfl (fun hc20 => ?_) (fun hc20 => ?_)
      ·replace hc20 := of_decide_eq_true hc20
       have hk : k < (predF l []).length := by omega
       have hbk := hB2 k hk
       have hbk0 := hR2.lo.2 k hk
       have hbi := hB2 i hi
       refine AW_skip (AW_seq (AW_block ?_))
       refine AW_join (α := List Int × Bool) (fun (z_ : List Int × Bool) => match z_ with | (n3, g3) => [(9, .lit (.bool g3)), (11, .lit (.int .i64 ((k : Nat) : Int))), (10, .lit (.int .i64 ((i : Nat) : Int))), (8, .lit (.int .i64 rr)), (0, .sl .any 13 (l.map eRule)), (2, .sl .nil 1 []), (3, .lit (.int .i64 0)), (5, .sl .any 3 ((predF l []).map eTerm)), (6, .ms b 0 1 ((predF l []).length) ((predF l []).length))]) (fun (z_ : List Int × Bool) => match z_ with | (n3, g3) => (h.upd b (some (.row (ints n3))))) (fun (z_ : List Int × Bool) => match z_ with | (n3, g3) => Rd (clR l (predF l [])) (predF l []).length ns n3 g3 ∧ (∀ j, j < (predF l []).length → n3.getD j 0 ≤ 16 + 16 * (i : Int) + (k : Int) + 1) ∧ (g3 = false → ∀ a b, a < i → b < (predF l []).length → cpair l (predF l []) ns a b) ∧ (g3 = false → ∀ b, b < k → cpair l (predF l []) ns i b) ∧ (g3 = false → hangF (tAt (predF l []) i) (tAt (predF l []) k) true l = true → ns.getD k 0 + 1 ≤ ns.getD i 0)) ?_ ?_
       ·refine AW_seq ?_
        refine AW_then (fun σ => At σ 129 [(11, .lit (.int .i64 ((k : Nat) : Int))), (9, .lit (.bool g2)), (10, .lit (.int .i64 ((i : Nat) : Int))), (8, .lit (.int .i64 rr)), (0, .sl .any 13 (l.map eRule)), (2, .sl .nil 1 []), (3, .lit (.int .i64 0)), (5, .sl .any 3 ((predF l []).map eTerm)), (6, .ms b 0 1 ((predF l []).length) ((predF l []).length)), (76, .lit (.bool ((hangF (tAt (predF l []) i) (tAt (predF l []) k) true l) && (decide (((n2.getD i 0) : Int) < (n2.getD k 0) + 1)))))] (h.upd b (some (.row (ints n2)))) [] h) ?_ ?_
        ·rcases Bool.eq_false_or_eq_true ((hangF (tAt (predF l []) i) (tAt (predF l []) k) true l)) with hq22_0 | hq22_0
         ·refine AW_draw 22 [.sl .any 13 (l.map eRule), .sl .any 3 ((predF l []).map eTerm), .lit (.int .i64 ((i : Nat) : Int)), .ip (eTerm (tAt (predF l []) i)), .agg (eTerm (tAt (predF l []) i)), .sl .any 3 ((predF l []).map eTerm), .lit (.int .i64 ((k : Nat) : Int)), .ip (eTerm (tAt (predF l []) k)), .agg (eTerm (tAt (predF l []) k)), .lit (.bool true), .lit (.bool true), .ms b 0 1 ((predF l []).length) ((predF l []).length), .lit (.int .i64 ((i : Nat) : Int)), .ptr b i, .lit (.int .i64 (n2.getD i 0)), .ms b 0 1 ((predF l []).length) ((predF l []).length), .lit (.int .i64 ((k : Nat) : Int)), .ptr b k, .lit (.int .i64 (n2.getD k 0)), .lit (.int .i64 ((n2.getD k 0) + 1)), .lit (.bool (decide (((n2.getD i 0) : Int) < (n2.getD k 0) + 1))), .lit (.bool (decide (((n2.getD i 0) : Int) < (n2.getD k 0) + 1)))] [(11, .lit (.int .i64 ((k : Nat) : Int))), (9, .lit (.bool g2)), (10, .lit (.int .i64 ((i : Nat) : Int))), (8, .lit (.int .i64 rr)), (0, .sl .any 13 (l.map eRule)), (2, .sl .nil 1 []), (3, .lit (.int .i64 0)), (5, .sl .any 3 ((predF l []).map eTerm)), (6, .ms b 0 1 ((predF l []).length) ((predF l []).length)), (76, .lit (.bool (decide (((n2.getD i 0) : Int) < (n2.getD k 0) + 1))))] rfl hmixed (by kernel_rfl) rfl (by kernel_rfl) ⟨
           ⟨[(0, .sl .any 13 (l.map eRule))], ⟨.inr ⟨by kernel_rfl, rfl⟩, trivial⟩, .inl ⟨rfl, PO_move rfl rfl⟩⟩,
           ⟨[(5, .sl .any 3 ((predF l []).map eTerm))], ⟨.inr ⟨by kernel_rfl, rfl⟩, trivial⟩, .inl ⟨rfl, PO_move rfl rfl⟩⟩,
           ⟨[(10, .lit (.int .i64 ((i : Nat) : Int)))], ⟨.inr ⟨by kernel_rfl, rfl⟩, trivial⟩, .inl ⟨rfl, PO_move rfl rfl⟩⟩,
           ⟨[(56, .sl .any 3 ((predF l []).map eTerm)), (57, .lit (.int .i64 ((i : Nat) : Int)))], ⟨.inl ⟨1, by kernel_rfl, rfl, rfl⟩, .inl ⟨2, by kernel_rfl, rfl, rfl⟩, trivial⟩, .inl ⟨rfl, PO_indexAddr rfl un37 ty25 rfl rfl (by first | decide | omega) (mget (tAt_get (by omega)))⟩⟩,
           ⟨[(58, .ip (eTerm (tAt (predF l []) i)))], ⟨.inl ⟨3, by kernel_rfl, rfl, rfl⟩, trivial⟩, .inl ⟨rfl, PO_load rfl ty25 rfl rfl⟩⟩,
           ⟨[(5, .sl .any 3 ((predF l []).map eTerm))], ⟨.inr ⟨by kernel_rfl, rfl⟩, trivial⟩, .inl ⟨rfl, PO_move rfl rfl⟩⟩,
           ⟨[(11, .lit (.int .i64 ((k : Nat) : Int)))], ⟨.inr ⟨by kernel_rfl, rfl⟩, trivial⟩, .inl ⟨rfl, PO_move rfl rfl⟩⟩,
           ⟨[(60, .sl .any 3 ((predF l []).map eTerm)), (61, .lit (.int .i64 ((k : Nat) : Int)))], ⟨.inl ⟨5, by kernel_rfl, rfl, rfl⟩, .inl ⟨6, by kernel_rfl, rfl, rfl⟩, trivial⟩, .inl ⟨rfl, PO_indexAddr rfl un37 ty25 rfl rfl (by first | decide | omega) (mget (tAt_get (by omega)))⟩⟩,
           ⟨[(62, .ip (eTerm (tAt (predF l []) k)))], ⟨.inl ⟨7, by kernel_rfl, rfl, rfl⟩, trivial⟩, .inl ⟨rfl, PO_load rfl ty25 rfl rfl⟩⟩,
           ⟨[(55, .sl .any 13 (l.map eRule)), (59, .agg (eTerm (tAt (predF l []) i))), (63, .agg (eTerm (tAt (predF l []) k)))], ⟨.inl ⟨0, by kernel_rfl, rfl, rfl⟩, .inl ⟨4, by kernel_rfl, rfl, rfl⟩, .inl ⟨8, by kernel_rfl, rfl, rfl⟩, trivial⟩, .inl ⟨rfl, PO_eqv (PO_call rfl rfl rfl (hang_ _ _ _ _ (by assumption))) hq22_0⟩⟩,
           ⟨[(64, .lit (.bool true))], ⟨.inl ⟨9, by kernel_rfl, rfl, rfl⟩, trivial⟩, .inl ⟨rfl, PO_move rfl rfl⟩⟩,
           ⟨[(6, .ms b 0 1 ((predF l []).length) ((predF l []).length)), (65, .lit (.bool true))], ⟨.inr ⟨by kernel_rfl, rfl⟩, .inl ⟨10, by kernel_rfl, rfl, rfl⟩, trivial⟩, .inl ⟨⟨65, rfl, .inl ⟨true, rfl, rfl⟩⟩, PO_move rfl rfl⟩⟩,
           ⟨[(10, .lit (.int .i64 ((i : Nat) : Int))), (65, .lit (.bool true))], ⟨.inr ⟨by kernel_rfl, rfl⟩, .inl ⟨10, by kernel_rfl, rfl, rfl⟩, trivial⟩, .inl ⟨⟨65, rfl, .inl ⟨true, rfl, rfl⟩⟩, PO_move rfl rfl⟩⟩,
           ⟨[(66, .ms b 0 1 ((predF l []).length) ((predF l []).length)), (67, .lit (.int .i64 ((i : Nat) : Int))), (65, .lit (.bool true))], ⟨.inl ⟨11, by kernel_rfl, rfl, rfl⟩, .inl ⟨12, by kernel_rfl, rfl, rfl⟩, .inl ⟨10, by kernel_rfl, rfl, rfl⟩, trivial⟩, .inl ⟨⟨65, rfl, .inl ⟨true, rfl, rfl⟩⟩, PO_ixj rfl un32 ty3 rfl rfl (by first | omega | (simp only [List.length_set]; omega))⟩⟩,
           ⟨[(68, .ptr b i), (65, .lit (.bool true))], ⟨.inl ⟨13, by kernel_rfl, rfl, rfl⟩, .inl ⟨10, by kernel_rfl, rfl, rfl⟩, trivial⟩, .inl ⟨⟨65, rfl, .inl ⟨true, rfl, rfl⟩⟩, PO_ldn rfl ty3 rfl (Heap.upd_same _ _ _) (by first | omega | (simp only [List.length_set]; omega))⟩⟩,
           ⟨[(6, .ms b 0 1 ((predF l []).length) ((predF l []).length)), (65, .lit (.bool true))], ⟨.inr ⟨by kernel_rfl, rfl⟩, .inl ⟨10, by kernel_rfl, rfl, rfl⟩, trivial⟩, .inl ⟨⟨65, rfl, .inl ⟨true, rfl, rfl⟩⟩, PO_move rfl rfl⟩⟩,
           ⟨[(11, .lit (.int .i64 ((k : Nat) : Int))), (65, .lit (.bool true))], ⟨.inr ⟨by kernel_rfl, rfl⟩, .inl ⟨10, by kernel_rfl, rfl, rfl⟩, trivial⟩, .inl ⟨⟨65, rfl, .inl ⟨true, rfl, rfl⟩⟩, PO_move rfl rfl⟩⟩,
           ⟨[(70, .ms b 0 1 ((predF l []).length) ((predF l []).length)), (71, .lit (.int .i64 ((k : Nat) : Int))), (65, .lit (.bool true))], ⟨.inl ⟨15, by kernel_rfl, rfl, rfl⟩, .inl ⟨16, by kernel_rfl, rfl, rfl⟩, .inl ⟨10, by kernel_rfl, rfl, rfl⟩, trivial⟩, .inl ⟨⟨65, rfl, .inl ⟨true, rfl, rfl⟩⟩, PO_ixj rfl un32 ty3 rfl rfl (by first | omega | (simp only [List.length_set]; omega))⟩⟩,
           ⟨[(72, .ptr b k), (65, .lit (.bool true))], ⟨.inl ⟨17, by kernel_rfl, rfl, rfl⟩, .inl ⟨10, by kernel_rfl, rfl, rfl⟩, trivial⟩, .inl ⟨⟨65, rfl, .inl ⟨true, rfl, rfl⟩⟩, PO_ldn rfl ty3 rfl (Heap.upd_same _ _ _) (by first | omega | (simp only [List.length_set]; omega))⟩⟩,
           ⟨[(73, .lit (.int .i64 (n2.getD k 0))), (65, .lit (.bool true))], ⟨.inl ⟨18, by kernel_rfl, rfl, rfl⟩, .inl ⟨10, by kernel_rfl, rfl, rfl⟩, trivial⟩, .inl ⟨⟨65, rfl, .inl ⟨true, rfl, rfl⟩⟩, PO_fit rfl rfl rfl rfl trivial (i64w (by omega) (by omega))⟩⟩,
           ⟨[(69, .lit (.int .i64 (n2.getD i 0))), (74, .lit (.int .i64 ((n2.getD k 0) + 1))), (65, .lit (.bool true))], ⟨.inl ⟨14, by kernel_rfl, rfl, rfl⟩, .inl ⟨19, by kernel_rfl, rfl, rfl⟩, .inl ⟨10, by kernel_rfl, rfl, rfl⟩, trivial⟩, .inl ⟨⟨65, rfl, .inl ⟨true, rfl, rfl⟩⟩, PO_int rfl rfl rfl rfl trivial⟩⟩,
           ⟨[(65, .lit (.bool true)), (75, .lit (.bool (decide (((n2.getD i 0) : Int) < (n2.getD k 0) + 1))))], ⟨.inl ⟨10, by kernel_rfl, rfl, rfl⟩, .inl ⟨20, by kernel_rfl, rfl, rfl⟩, trivial⟩, .inl ⟨rfl, PO_pick rfl rfl rfl⟩⟩,
           trivial⟩ ⟨.inr ⟨by kernel_rfl, rfl⟩, .inr ⟨by kernel_rfl, rfl⟩, .inr ⟨by kernel_rfl, rfl⟩, .inr ⟨by kernel_rfl, rfl⟩, .inr ⟨by kernel_rfl, rfl⟩, .inr ⟨by kernel_rfl, rfl⟩, .inr ⟨by kernel_rfl, rfl⟩, .inr ⟨by kernel_rfl, rfl⟩, .inr ⟨by kernel_rfl, rfl⟩, .inl ⟨21, by decide, rfl, rfl⟩, trivial⟩ ?_
          refine AL_say (k := 76) (vb ((hangF (tAt (predF l []) i) (tAt (predF l []) k) true l) && (decide (((n2.getD i 0) : Int) < (n2.getD k 0) + 1)))) rfl (by simp only [hq22_0, Bool.true_and, Bool.false_and, Bool.true_or, Bool.false_or]) ?_
          refine AL_nil ?_
          exact ⟨rfl, ⟨rfl, rfl, rfl, rfl, rfl, rfl, rfl, rfl, rfl, rfl, trivial⟩, rfl, rfl, rfl⟩
         ·refine AW_draw 22 [.sl .any 13 (l.map eRule), .sl .any 3 ((predF l []).map eTerm), .lit (.int .i64 ((i : Nat) : Int)), .ip (eTerm (tAt (predF l []) i)), .agg (eTerm (tAt (predF l []) i)), .sl .any 3 ((predF l []).map eTerm), .lit (.int .i64 ((k : Nat) : Int)), .ip (eTerm (tAt (predF l []) k)), .agg (eTerm (tAt (predF l []) k)), .lit (.bool false), .lit (.bool false), .tup [], .tup [], .tup [], .tup [], .tup [], .tup [], .tup [], .tup [], .tup [], .tup [], .lit (.bool false)] [(11, .lit (.int .i64 ((k : Nat) : Int))), (9, .lit (.bool g2)), (10, .lit (.int .i64 ((i : Nat) : Int))), (8, .lit (.int .i64 rr)), (0, .sl .any 13 (l.map eRule)), (2, .sl .nil 1 []), (3, .lit (.int .i64 0)), (5, .sl .any 3 ((predF l []).map eTerm)), (6, .ms b 0 1 ((predF l []).length) ((predF l []).length)), (76, .lit (.bool false))] rfl hmixed (by kernel_rfl) rfl (by kernel_rfl) ⟨
           ⟨[(0, .sl .any 13 (l.map eRule))], ⟨.inr ⟨by kernel_rfl, rfl⟩, trivial⟩, .inl ⟨rfl, PO_move rfl rfl⟩⟩,
           ⟨[(5, .sl .any 3 ((predF l []).map eTerm))], ⟨.inr ⟨by kernel_rfl, rfl⟩, trivial⟩, .inl ⟨rfl, PO_move rfl rfl⟩⟩,
           ⟨[(10, .lit (.int .i64 ((i : Nat) : Int)))], ⟨.inr ⟨by kernel_rfl, rfl⟩, trivial⟩, .inl ⟨rfl, PO_move rfl rfl⟩⟩,
           ⟨[(56, .sl .any 3 ((predF l []).map eTerm)), (57, .lit (.int .i64 ((i : Nat) : Int)))], ⟨.inl ⟨1, by kernel_rfl, rfl, rfl⟩, .inl ⟨2, by kernel_rfl, rfl, rfl⟩, trivial⟩, .inl ⟨rfl, PO_indexAddr rfl un37 ty25 rfl rfl (by first | decide | omega) (mget (tAt_get (by omega)))⟩⟩,
           ⟨[(58, .ip (eTerm (tAt (predF l []) i)))], ⟨.inl ⟨3, by kernel_rfl, rfl, rfl⟩, trivial⟩, .inl ⟨rfl, PO_load rfl ty25 rfl rfl⟩⟩,
           ⟨[(5, .sl .any 3 ((predF l []).map eTerm))], ⟨.inr ⟨by kernel_rfl, rfl⟩, trivial⟩, .inl ⟨rfl, PO_move rfl rfl⟩⟩,
           ⟨[(11, .lit (.int .i64 ((k : Nat) : Int)))], ⟨.inr ⟨by kernel_rfl, rfl⟩, trivial⟩, .inl ⟨rfl, PO_move rfl rfl⟩⟩,
           ⟨[(60, .sl .any 3 ((predF l []).map eTerm)), (61, .lit (.int .i64 ((k : Nat) : Int)))], ⟨.inl ⟨5, by kernel_rfl, rfl, rfl⟩, .inl ⟨6, by kernel_rfl, rfl, rfl⟩, trivial⟩, .inl ⟨rfl, PO_indexAddr rfl un37 ty25 rfl rfl (by first | decide | omega) (mget (tAt_get (by omega)))⟩⟩,
           ⟨[(62, .ip (eTerm (tAt (predF l []) k)))], ⟨.inl ⟨7, by kernel_rfl, rfl, rfl⟩, trivial⟩, .inl ⟨rfl, PO_load rfl ty25 rfl rfl⟩⟩,
           ⟨[(55, .sl .any 13 (l.map eRule)), (59, .agg (eTerm (tAt (predF l []) i))), (63, .agg (eTerm (tAt (predF l []) k)))], ⟨.inl ⟨0, by kernel_rfl, rfl, rfl⟩, .inl ⟨4, by kernel_rfl, rfl, rfl⟩, .inl ⟨8, by kernel_rfl, rfl, rfl⟩, trivial⟩, .inl ⟨rfl, PO_eqv (PO_call rfl rfl rfl (hang_ _ _ _ _ (by assumption))) hq22_0⟩⟩,
           ⟨[(64, .lit (.bool false))], ⟨.inl ⟨9, by kernel_rfl, rfl, rfl⟩, trivial⟩, .inl ⟨rfl, PO_move rfl rfl⟩⟩,
           ⟨[(65, .lit (.bool false))], ⟨.inl ⟨10, by kernel_rfl, rfl, rfl⟩, trivial⟩, .inr ⟨⟨65, rfl, .inl ⟨false, rfl, rfl⟩⟩, rfl⟩⟩,
           ⟨[(65, .lit (.bool false))], ⟨.inl ⟨10, by kernel_rfl, rfl, rfl⟩, trivial⟩, .inr ⟨⟨65, rfl, .inl ⟨false, rfl, rfl⟩⟩, rfl⟩⟩,
           ⟨[(65, .lit (.bool false))], ⟨.inl ⟨10, by kernel_rfl, rfl, rfl⟩, trivial⟩, .inr ⟨⟨65, rfl, .inl ⟨false, rfl, rfl⟩⟩, rfl⟩⟩,
           ⟨[(65, .lit (.bool false))], ⟨.inl ⟨10, by kernel_rfl, rfl, rfl⟩, trivial⟩, .inr ⟨⟨65, rfl, .inl ⟨false, rfl, rfl⟩⟩, rfl⟩⟩,
           ⟨[(65, .lit (.bool false))], ⟨.inl ⟨10, by kernel_rfl, rfl, rfl⟩, trivial⟩, .inr ⟨⟨65, rfl, .inl ⟨false, rfl, rfl⟩⟩, rfl⟩⟩,
           ⟨[(65, .lit (.bool false))], ⟨.inl ⟨10, by kernel_rfl, rfl, rfl⟩, trivial⟩, .inr ⟨⟨65, rfl, .inl ⟨false, rfl, rfl⟩⟩, rfl⟩⟩,
           ⟨[(65, .lit (.bool false))], ⟨.inl ⟨10, by kernel_rfl, rfl, rfl⟩, trivial⟩, .inr ⟨⟨65, rfl, .inl ⟨false, rfl, rfl⟩⟩, rfl⟩⟩,
           ⟨[(65, .lit (.bool false))], ⟨.inl ⟨10, by kernel_rfl, rfl, rfl⟩, trivial⟩, .inr ⟨⟨65, rfl, .inl ⟨false, rfl, rfl⟩⟩, rfl⟩⟩,
           ⟨[(65, .lit (.bool false))], ⟨.inl ⟨10, by kernel_rfl, rfl, rfl⟩, trivial⟩, .inr ⟨⟨65, rfl, .inl ⟨false, rfl, rfl⟩⟩, rfl⟩⟩,
           ⟨[(65, .lit (.bool false))], ⟨.inl ⟨10, by kernel_rfl, rfl, rfl⟩, trivial⟩, .inr ⟨⟨65, rfl, .inl ⟨false, rfl, rfl⟩⟩, rfl⟩⟩,
           ⟨[(65, .lit (.bool false)), (75, .tup [])], ⟨.inl ⟨10, by kernel_rfl, rfl, rfl⟩, .inl ⟨20, by kernel_rfl, rfl, rfl⟩, trivial⟩, .inl ⟨rfl, PO_pick rfl rfl rfl⟩⟩,
           trivial⟩ ⟨.inr ⟨by kernel_rfl, rfl⟩, .inr ⟨by kernel_rfl, rfl⟩, .inr ⟨by kernel_rfl, rfl⟩, .inr ⟨by kernel_rfl, rfl⟩, .inr ⟨by kernel_rfl, rfl⟩, .inr ⟨by kernel_rfl, rfl⟩, .inr ⟨by kernel_rfl, rfl⟩, .inr ⟨by kernel_rfl, rfl⟩, .inr ⟨by kernel_rfl, rfl⟩, .inl ⟨21, by decide, rfl, rfl⟩, trivial⟩ ?_
          refine AL_say (k := 76) (vb ((hangF (tAt (predF l []) i) (tAt (predF l []) k) true l) && (decide (((n2.getD i 0) : Int) < (n2.getD k 0) + 1)))) rfl (by simp only [hq22_0, Bool.true_and, Bool.false_and, Bool.true_or, Bool.false_or]) ?_
          refine AL_nil ?_
          exact ⟨rfl, ⟨rfl, rfl, rfl, rfl, rfl, rfl, rfl, rfl, rfl, rfl, trivial⟩, rfl, rfl, rfl⟩
        ·intro σ hat
         refine AW_at hat ?_
         refine AW_cond _ rfl (fun hc22 => ?_) (fun hc22 => ?_)
         ·rw [Bool.and_eq_true] at hc22
          have hh1 := hc22.1
          have hh1b := of_decide_eq_true hc22.2
          refine AW_seq (AW_region rfl ?_)
          refine qm ?_
          refine qm ?_
          refine qm ?_
          refine qm ?_
          refine qp (v := .ptr b k) (PO_ixj rfl un32 ty3 rfl rfl (by first | omega | (simp only [List.length_set]; omega))) ?_
          refine qp (v := vi (n2.getD k 0)) (PO_ldn rfl ty3 rfl (Heap.upd_same _ _ _) (by first | omega | (simp only [List.length_set]; omega))) ?_
          refine qp (v := vi ((n2.getD k 0) + 1)) (PO_fit rfl rfl rfl rfl trivial (i64w (by omega) (by omega))) ?_
          refine qp (v := .ptr b i) (PO_ixj rfl un32 ty3 rfl rfl (by first | omega | (simp only [List.length_set]; omega))) ?_
          refine AL_stn (ns := n2) (j := i) (v := (n2.getD k 0) + 1) rfl rfl rfl ty3 rfl rfl (by first | omega | (simp only [List.length_set]; omega)) ?_
          refine AL_keep [(11,_),(9,_),(10,_),(8,_),(0,_),(2,_),(3,_),(5,_),(6,_)] ⟨rfl,rfl,rfl,rfl,rfl,rfl,rfl,rfl,rfl,trivial⟩ ?_
          refine AL_nil (AW_region rfl ?_)
          refine qa (v := vb true) ?_
          refine AL_nil ?_
          exact ⟨(n2.set i (n2.getD k 0 + 1), true), ⟨hR2.step hi (by omega) (fun ms hm hc => Int.le_trans (Int.add_le_add_right (hR2.bel ms hm hc k hk) 1) ((hc i k hi hk).1 hh1)), fun j hj => by
            rw [getD_set (by omega)]
            split
            ·have := hB2 k hk; omega
            ·have := hB2 j hj; omega, nofun, nofun, nofun⟩, ⟨rfl, ⟨rfl, rfl, rfl, rfl, rfl, rfl, rfl, rfl, rfl, trivial⟩, rfl, rfl, rfl⟩⟩
         ·refine AW_skip ?_
          exact ⟨(n2, g2), ⟨hR2, fun j hj => by have := hB2 j hj; omega, hD2, hD3, fun e hh => by
            have hg := hR2.gF e
            rw [hh] at hc22; simp only [Bool.true_and, decide_eq_false_iff_not] at hc22; rw [← hg]; omega⟩, ⟨rfl, ⟨rfl, rfl, rfl, rfl, rfl, rfl, rfl, rfl, rfl, trivial⟩, rfl, rfl, rfl⟩⟩
       ·rintro ⟨n3, g3⟩ ⟨hR3, hB3, hE3, hF3, hS3⟩
        have hn3 := hR3.lo.1
        refine AW_seq ?_
        refine AW_then (fun σ => At σ 129 [(9, .lit (.bool g3)), (11, .lit (.int .i64 ((k : Nat) : Int))), (10, .lit (.int .i64 ((i : Nat) : Int))), (8, .lit (.int .i64 rr)), (0, .sl .any 13 (l.map eRule)), (2, .sl .nil 1 []), (3, .lit (.int .i64 0)), (5, .sl .any 3 ((predF l []).map eTerm)), (6, .ms b 0 1 ((predF l []).length) ((predF l []).length)), (105, .lit (.bool ((hangF (tAt (predF l []) i) (tAt (predF l []) k) false l) && (decide (((n3.getD i 0) : Int) < (n3.getD k 0))))))] (h.upd b (some (.row (ints n3)))) [] h) ?_ ?_
        ·rcases Bool.eq_false_or_eq_true ((hangF (tAt (predF l []) i) (tAt (predF l []) k) false l)) with hq25_0 | hq25_0
         ·refine AW_draw 21 [.sl .any 13 (l.map eRule), .sl .any 3 ((predF l []).map eTerm), .lit (.int .i64 ((i : Nat) : Int)), .ip (eTerm (tAt (predF l []) i)), .agg (eTerm (tAt (predF l []) i)), .sl .any 3 ((predF l []).map eTerm), .lit (.int .i64 ((k : Nat) : Int)), .ip (eTerm (tAt (predF l []) k)), .agg (eTerm (tAt (predF l []) k)), .lit (.bool true), .lit (.bool true), .ms b 0 1 ((predF l []).length) ((predF l []).length), .lit (.int .i64 ((i : Nat) : Int)), .ptr b i, .lit (.int .i64 (n3.getD i 0)), .ms b 0 1 ((predF l []).length) ((predF l []).length), .lit (.int .i64 ((k : Nat) : Int)), .ptr b k, .lit (.int .i64 (n3.getD k 0)), .lit (.bool (decide (((n3.getD i 0) : Int) < (n3.getD k 0)))), .lit (.bool (decide (((n3.getD i 0) : Int) < (n3.getD k 0))))] [(9, .lit (.bool g3)), (11, .lit (.int .i64 ((k : Nat) : Int))), (10, .lit (.int .i64 ((i : Nat) : Int))), (8, .lit (.int .i64 rr)), (0, .sl .any 13 (l.map eRule)), (2, .sl .nil 1 []), (3, .lit (.int .i64 0)), (5, .sl .any 3 ((predF l []).map eTerm)), (6, .ms b 0 1 ((predF l []).length) ((predF l []).length)), (105, .lit (.bool (decide (((n3.getD i 0) : Int) < (n3.getD k 0)))))] rfl hmixed (by kernel_rfl) rfl (by kernel_rfl) ⟨
           ⟨[(0, .sl .any 13 (l.map eRule))], ⟨.inr ⟨by kernel_rfl, rfl⟩, trivial⟩, .inl ⟨rfl, PO_move rfl rfl⟩⟩,
           ⟨[(5, .sl .any 3 ((predF l []).map eTerm))], ⟨.inr ⟨by kernel_rfl, rfl⟩, trivial⟩, .inl ⟨rfl, PO_move rfl rfl⟩⟩,
           ⟨[(10, .lit (.int .i64 ((i : Nat) : Int)))], ⟨.inr ⟨by kernel_rfl, rfl⟩, trivial⟩, .inl ⟨rfl, PO_move rfl rfl⟩⟩,
           ⟨[(86, .sl .any 3 ((predF l []).map eTerm)), (87, .lit (.int .i64 ((i : Nat) : Int)))], ⟨.inl ⟨1, by kernel_rfl, rfl, rfl⟩, .inl ⟨2, by kernel_rfl, rfl, rfl⟩, trivial⟩, .inl ⟨rfl, PO_indexAddr rfl un37 ty25 rfl rfl (by first | decide | omega) (mget (tAt_get (by omega)))⟩⟩,
           ⟨[(88, .ip (eTerm (tAt (predF l []) i)))], ⟨.inl ⟨3, by kernel_rfl, rfl, rfl⟩, trivial⟩, .inl ⟨rfl, PO_load rfl ty25 rfl rfl⟩⟩,
           ⟨[(5, .sl .any 3 ((predF l []).map eTerm))], ⟨.inr ⟨by kernel_rfl, rfl⟩, trivial⟩, .inl ⟨rfl, PO_move rfl rfl⟩⟩,
           ⟨[(11, .lit (.int .i64 ((k : Nat) : Int)))], ⟨.inr ⟨by kernel_rfl, rfl⟩, trivial⟩, .inl ⟨rfl, PO_move rfl rfl⟩⟩,
           ⟨[(90, .sl .any 3 ((predF l []).map eTerm)), (91, .lit (.int .i64 ((k : Nat) : Int)))], ⟨.inl ⟨5, by kernel_rfl, rfl, rfl⟩, .inl ⟨6, by kernel_rfl, rfl, rfl⟩, trivial⟩, .inl ⟨rfl, PO_indexAddr rfl un37 ty25 rfl rfl (by first | decide | omega) (mget (tAt_get (by omega)))⟩⟩,
           ⟨[(92, .ip (eTerm (tAt (predF l []) k)))], ⟨.inl ⟨7, by kernel_rfl, rfl, rfl⟩, trivial⟩, .inl ⟨rfl, PO_load rfl ty25 rfl rfl⟩⟩,
           ⟨[(85, .sl .any 13 (l.map eRule)), (89, .agg (eTerm (tAt (predF l []) i))), (93, .agg (eTerm (tAt (predF l []) k)))], ⟨.inl ⟨0, by kernel_rfl, rfl, rfl⟩, .inl ⟨4, by kernel_rfl, rfl, rfl⟩, .inl ⟨8, by kernel_rfl, rfl, rfl⟩, trivial⟩, .inl ⟨rfl, PO_eqv (PO_call rfl rfl rfl (hang_ _ _ _ _ (by assumption))) hq25_0⟩⟩,
           ⟨[(94, .lit (.bool true))], ⟨.inl ⟨9, by kernel_rfl, rfl, rfl⟩, trivial⟩, .inl ⟨rfl, PO_move rfl rfl⟩⟩,
           ⟨[(6, .ms b 0 1 ((predF l []).length) ((predF l []).length)), (95, .lit (.bool true))], ⟨.inr ⟨by kernel_rfl, rfl⟩, .inl ⟨10, by kernel_rfl, rfl, rfl⟩, trivial⟩, .inl ⟨⟨95, rfl, .inl ⟨true, rfl, rfl⟩⟩, PO_move rfl rfl⟩⟩,
           ⟨[(10, .lit (.int .i64 ((i : Nat) : Int))), (95, .lit (.bool true))], ⟨.inr ⟨by kernel_rfl, rfl⟩, .inl ⟨10, by kernel_rfl, rfl, rfl⟩, trivial⟩, .inl ⟨⟨95, rfl, .inl ⟨true, rfl, rfl⟩⟩, PO_move rfl rfl⟩⟩,
           ⟨[(96, .ms b 0 1 ((predF l []).length) ((predF l []).length)), (97, .lit (.int .i64 ((i : Nat) : Int))), (95, .lit (.bool true))], ⟨.inl ⟨11, by kernel_rfl, rfl, rfl⟩, .inl ⟨12, by kernel_rfl, rfl, rfl⟩, .inl ⟨10, by kernel_rfl, rfl, rfl⟩, trivial⟩, .inl ⟨⟨95, rfl, .inl ⟨true, rfl, rfl⟩⟩, PO_ixj rfl un32 ty3 rfl rfl (by first | omega | (simp only [List.length_set]; omega))⟩⟩,
           ⟨[(98, .ptr b i), (95, .lit (.bool true))], ⟨.inl ⟨13, by kernel_rfl, rfl, rfl⟩, .inl ⟨10, by kernel_rfl, rfl, rfl⟩, trivial⟩, .inl ⟨⟨95, rfl, .inl ⟨true, rfl, rfl⟩⟩, PO_ldn rfl ty3 rfl (Heap.upd_same _ _ _) (by first | omega | (simp only [List.length_set]; omega))⟩⟩,
           ⟨[(6, .ms b 0 1 ((predF l []).length) ((predF l []).length)), (95, .lit (.bool true))], ⟨.inr ⟨by kernel_rfl, rfl⟩, .inl ⟨10, by kernel_rfl, rfl, rfl⟩, trivial⟩, .inl ⟨⟨95, rfl, .inl ⟨true, rfl, rfl⟩⟩, PO_move rfl rfl⟩⟩,
           ⟨[(11, .lit (.int .i64 ((k : Nat) : Int))), (95, .lit (.bool true))], ⟨.inr ⟨by kernel_rfl, rfl⟩, .inl ⟨10, by kernel_rfl, rfl, rfl⟩, trivial⟩, .inl ⟨⟨95, rfl, .inl ⟨true, rfl, rfl⟩⟩, PO_move rfl rfl⟩⟩,
           ⟨[(100, .ms b 0 1 ((predF l []).length) ((predF l []).length)), (101, .lit (.int .i64 ((k : Nat) : Int))), (95, .lit (.bool true))], ⟨.inl ⟨15, by kernel_rfl, rfl, rfl⟩, .inl ⟨16, by kernel_rfl, rfl, rfl⟩, .inl ⟨10, by kernel_rfl, rfl, rfl⟩, trivial⟩, .inl ⟨⟨95, rfl, .inl ⟨true, rfl, rfl⟩⟩, PO_ixj rfl un32 ty3 rfl rfl (by first | omega | (simp only [List.length_set]; omega))⟩⟩,
           ⟨[(102, .ptr b k), (95, .lit (.bool true))], ⟨.inl ⟨17, by kernel_rfl, rfl, rfl⟩, .inl ⟨10, by kernel_rfl, rfl, rfl⟩, trivial⟩, .inl ⟨⟨95, rfl, .inl ⟨true, rfl, rfl⟩⟩, PO_ldn rfl ty3 rfl (Heap.upd_same _ _ _) (by first | omega | (simp only [List.length_set]; omega))⟩⟩,
           ⟨[(99, .lit (.int .i64 (n3.getD i 0))), (103, .lit (.int .i64 (n3.getD k 0))), (95, .lit (.bool true))], ⟨.inl ⟨14, by kernel_rfl, rfl, rfl⟩, .inl ⟨18, by kernel_rfl, rfl, rfl⟩, .inl ⟨10, by kernel_rfl, rfl, rfl⟩, trivial⟩, .inl ⟨⟨95, rfl, .inl ⟨true, rfl, rfl⟩⟩, PO_int rfl rfl rfl rfl trivial⟩⟩,
           ⟨[(95, .lit (.bool true)), (104, .lit (.bool (decide (((n3.getD i 0) : Int) < (n3.getD k 0)))))], ⟨.inl ⟨10, by kernel_rfl, rfl, rfl⟩, .inl ⟨19, by kernel_rfl, rfl, rfl⟩, trivial⟩, .inl ⟨rfl, PO_pick rfl rfl rfl⟩⟩,
           trivial⟩ ⟨.inr ⟨by kernel_rfl, rfl⟩, .inr ⟨by kernel_rfl, rfl⟩, .inr ⟨by kernel_rfl, rfl⟩, .inr ⟨by kernel_rfl, rfl⟩, .inr ⟨by kernel_rfl, rfl⟩, .inr ⟨by kernel_rfl, rfl⟩, .inr ⟨by kernel_rfl, rfl⟩, .inr ⟨by kernel_rfl, rfl⟩, .inr ⟨by kernel_rfl, rfl⟩, .inl ⟨20, by decide, rfl, rfl⟩, trivial⟩ ?_
          refine AL_say (k := 105) (vb ((hangF (tAt (predF l []) i) (tAt (predF l []) k) false l) && (decide (((n3.getD i 0) : Int) < (n3.getD k 0))))) rfl (by simp only [hq25_0, Bool.true_and, Bool.false_and, Bool.true_or, Bool.false_or]) ?_
          refine AL_nil ?_
          exact ⟨rfl, ⟨rfl, rfl, rfl, rfl, rfl, rfl, rfl, rfl, rfl, rfl, trivial⟩, rfl, rfl, rfl⟩
         ·refine AW_draw 21 [.sl .any 13 (l.map eRule), .sl .any 3 ((predF l []).map eTerm), .lit (.int .i64 ((i : Nat) : Int)), .ip (eTerm (tAt (predF l []) i)), .agg (eTerm (tAt (predF l []) i)), .sl .any 3 ((predF l []).map eTerm), .lit (.int .i64 ((k : Nat) : Int)), .ip (eTerm (tAt (predF l []) k)), .agg (eTerm (tAt (predF l []) k)), .lit (.bool false), .lit (.bool false), .tup [], .tup [], .tup [], .tup [], .tup [], .tup [], .tup [], .tup [], .tup [], .lit (.bool false)] [(9, .lit (.bool g3)), (11, .lit (.int .i64 ((k : Nat) : Int))), (10, .lit (.int .i64 ((i : Nat) : Int))), (8, .lit (.int .i64 rr)), (0, .sl .any 13 (l.map eRule)), (2, .sl .nil 1 []), (3, .lit (.int .i64 0)), (5, .sl .any 3 ((predF l []).map eTerm)), (6, .ms b 0 1 ((predF l []).length) ((predF l []).length)), (105, .lit (.bool false))] rfl hmixed (by kernel_rfl) rfl (by kernel_rfl) ⟨
           ⟨[(0, .sl .any 13 (l.map eRule))], ⟨.inr ⟨by kernel_rfl, rfl⟩, trivial⟩, .inl ⟨rfl, PO_move rfl rfl⟩⟩,
           ⟨[(5, .sl .any 3 ((predF l []).map eTerm))], ⟨.inr ⟨by kernel_rfl, rfl⟩, trivial⟩, .inl ⟨rfl, PO_move rfl rfl⟩⟩,
           ⟨[(10, .lit (.int .i64 ((i : Nat) : Int)))], ⟨.inr ⟨by kernel_rfl, rfl⟩, trivial⟩, .inl ⟨rfl, PO_move rfl rfl⟩⟩,
           ⟨[(86, .sl .any 3 ((predF l []).map eTerm)), (87, .lit (.int .i64 ((i : Nat) : Int)))], ⟨.inl ⟨1, by kernel_rfl, rfl, rfl⟩, .inl ⟨2, by kernel_rfl, rfl, rfl⟩, trivial⟩, .inl ⟨rfl, PO_indexAddr rfl un37 ty25 rfl rfl (by first | decide | omega) (mget (tAt_get (by omega)))⟩⟩,
           ⟨[(88, .ip (eTerm (tAt (predF l []) i)))], ⟨.inl ⟨3, by kernel_rfl, rfl, rfl⟩, trivial⟩, .inl ⟨rfl, PO_load rfl ty25 rfl rfl⟩⟩,
           ⟨[(5, .sl .any 3 ((predF l []).map eTerm))], ⟨.inr ⟨by kernel_rfl, rfl⟩, trivial⟩, .inl ⟨rfl, PO_move rfl rfl⟩⟩,
           ⟨[(11, .lit (.int .i64 ((k : Nat) : Int)))], ⟨.inr ⟨by kernel_rfl, rfl⟩, trivial⟩, .inl ⟨rfl, PO_move rfl rfl⟩⟩,
           ⟨[(90, .sl .any 3 ((predF l []).map eTerm)), (91, .lit (.int .i64 ((k : Nat) : Int)))], ⟨.inl ⟨5, by kernel_rfl, rfl, rfl⟩, .inl ⟨6, by kernel_rfl, rfl, rfl⟩, trivial⟩, .inl ⟨rfl, PO_indexAddr rfl un37 ty25 rfl rfl (by first | decide | omega) (mget (tAt_get (by omega)))⟩⟩,
           ⟨[(92, .ip (eTerm (tAt (predF l []) k)))], ⟨.inl ⟨7, by kernel_rfl, rfl, rfl⟩, trivial⟩, .inl ⟨rfl, PO_load rfl ty25 rfl rfl⟩⟩,
           ⟨[(85, .sl .any 13 (l.map eRule)), (89, .agg (eTerm (tAt (predF l []) i))), (93, .agg (eTerm (tAt (predF l []) k)))], ⟨.inl ⟨0, by kernel_rfl, rfl, rfl⟩, .inl ⟨4, by kernel_rfl, rfl, rfl⟩, .inl ⟨8, by kernel_rfl, rfl, rfl⟩, trivial⟩, .inl ⟨rfl, PO_eqv (PO_call rfl rfl rfl (hang_ _ _ _ _ (by assumption))) hq25_0⟩⟩,
           ⟨[(94, .lit (.bool false))], ⟨.inl ⟨9, by kernel_rfl, rfl, rfl⟩, trivial⟩, .inl ⟨rfl, PO_move rfl rfl⟩⟩,
           ⟨[(95, .lit (.bool false))], ⟨.inl ⟨10, by kernel_rfl, rfl, rfl⟩, trivial⟩, .inr ⟨⟨95, rfl, .inl ⟨false, rfl, rfl⟩⟩, rfl⟩⟩,
           ⟨[(95, .lit (.bool false))], ⟨.inl ⟨10, by kernel_rfl, rfl, rfl⟩, trivial⟩, .inr ⟨⟨95, rfl, .inl ⟨false, rfl, rfl⟩⟩, rfl⟩⟩,
           ⟨[(95, .lit (.bool false))], ⟨.inl ⟨10, by kernel_rfl, rfl, rfl⟩, trivial⟩, .inr ⟨⟨95, rfl, .inl ⟨false, rfl, rfl⟩⟩, rfl⟩⟩,
           ⟨[(95, .lit (.bool false))], ⟨.inl ⟨10, by kernel_rfl, rfl, rfl⟩, trivial⟩, .inr ⟨⟨95, rfl, .inl ⟨false, rfl, rfl⟩⟩, rfl⟩⟩,
           ⟨[(95, .lit (.bool false))], ⟨.inl ⟨10, by kernel_rfl, rfl, rfl⟩, trivial⟩, .inr ⟨⟨95, rfl, .inl ⟨false, rfl, rfl⟩⟩, rfl⟩⟩,
           ⟨[(95, .lit (.bool false))], ⟨.inl ⟨10, by kernel_rfl, rfl, rfl⟩, trivial⟩, .inr ⟨⟨95, rfl, .inl ⟨false, rfl, rfl⟩⟩, rfl⟩⟩,
           ⟨[(95, .lit (.bool false))], ⟨.inl ⟨10, by kernel_rfl, rfl, rfl⟩, trivial⟩, .inr ⟨⟨95, rfl, .inl ⟨false, rfl, rfl⟩⟩, rfl⟩⟩,
           ⟨[(95, .lit (.bool false))], ⟨.inl ⟨10, by kernel_rfl, rfl, rfl⟩, trivial⟩, .inr ⟨⟨95, rfl, .inl ⟨false, rfl, rfl⟩⟩, rfl⟩⟩,
           ⟨[(95, .lit (.bool false))], ⟨.inl ⟨10, by kernel_rfl, rfl, rfl⟩, trivial⟩, .inr ⟨⟨95, rfl, .inl ⟨false, rfl, rfl⟩⟩, rfl⟩⟩,
           ⟨[(95, .lit (.bool false)), (104, .tup [])], ⟨.inl ⟨10, by kernel_rfl, rfl, rfl⟩, .inl ⟨19, by kernel_rfl, rfl, rfl⟩, trivial⟩, .inl ⟨rfl, PO_pick rfl rfl rfl⟩⟩,
           trivial⟩ ⟨.inr ⟨by kernel_rfl, rfl⟩, .inr ⟨by kernel_rfl, rfl⟩, .inr ⟨by kernel_rfl, rfl⟩, .inr ⟨by kernel_rfl, rfl⟩, .inr ⟨by kernel_rfl, rfl⟩, .inr ⟨by kernel_rfl, rfl⟩, .inr ⟨by kernel_rfl, rfl⟩, .inr ⟨by kernel_rfl, rfl⟩, .inr ⟨by kernel_rfl, rfl⟩, .inl ⟨20, by decide, rfl, rfl⟩, trivial⟩ ?_
          refine AL_say (k := 105) (vb ((hangF (tAt (predF l []) i) (tAt (predF l []) k) false l) && (decide (((n3.getD i 0) : Int) < (n3.getD k 0))))) rfl (by simp only [hq25_0, Bool.true_and, Bool.false_and, Bool.true_or, Bool.false_or]) ?_
          refine AL_nil ?_
          exact ⟨rfl, ⟨rfl, rfl, rfl, rfl, rfl, rfl, rfl, rfl, rfl, rfl, trivial⟩, rfl, rfl, rfl⟩
        ·intro σ hat
         refine AW_at hat ?_
         refine AW_cond _ rfl (fun hc25 => ?_) (fun hc25 => ?_)
         ·rw [Bool.and_eq_true] at hc25
          have hh2 := hc25.1
          have hh2b := of_decide_eq_true hc25.2
          refine AW_seq (AW_region rfl ?_)
          refine qm ?_
          refine qm ?_
          refine qm ?_
          refine qm ?_
          refine qp (v := .ptr b k) (PO_ixj rfl un32 ty3 rfl rfl (by first | omega | (simp only [List.length_set]; omega))) ?_
          refine qp (v := vi (n3.getD k 0)) (PO_ldn rfl ty3 rfl (Heap.upd_same _ _ _) (by first | omega | (simp only [List.length_set]; omega))) ?_
          refine qp (v := .ptr b i) (PO_ixj rfl un32 ty3 rfl rfl (by first | omega | (simp only [List.length_set]; omega))) ?_
          refine AL_stn (ns := n3) (j := i) (v := (n3.getD k 0)) rfl rfl rfl ty3 rfl rfl (by first | omega | (simp only [List.length_set]; omega)) ?_
          refine AL_keep [(9,_),(11,_),(10,_),(8,_),(0,_),(2,_),(3,_),(5,_),(6,_)] ⟨rfl,rfl,rfl,rfl,rfl,rfl,rfl,rfl,rfl,trivial⟩ ?_
          refine AL_nil (AW_region rfl ?_)
          refine qa (v := vb true) ?_
          refine AL_nil (AW_region rfl ?_)
          refine qm ?_
          refine qp (v := vn (k + 1)) (PO_inc rfl rfl rfl (by first | omega | simp_all; omega)) ?_
          refine qa ?_
          refine AL_keep [(9,_),(11,_),(10,_),(8,_),(0,_),(2,_),(3,_),(5,_),(6,_)] ⟨rfl,rfl,rfl,rfl,rfl,rfl,rfl,rfl,rfl,trivial⟩ ?_
          refine AL_nil ?_
          exact ⟨(k + 1, n3.set i (n3.getD k 0), true), ⟨by omega, hR3.step hi (by omega) (fun ms hm hc => Int.le_trans (hR3.bel ms hm hc k hk) ((hc i k hi hk).2 hh2)), fun j hj => by
            rw [getD_set (by omega)]
            split
            ·have := hB3 k hk; omega
            ·have := hB3 j hj; omega, nofun, nofun⟩, by simp only []; omega, ⟨rfl, ⟨rfl, rfl, rfl, rfl, rfl, rfl, rfl, rfl, rfl, trivial⟩, rfl, rfl, rfl⟩⟩
         ·refine AW_skip (AW_region rfl ?_)
          refine qm ?_
          refine qp (v := vn (k + 1)) (PO_inc rfl rfl rfl (by first | omega | simp_all; omega)) ?_
          refine qa ?_
          refine AL_keep [(9,_),(11,_),(10,_),(8,_),(0,_),(2,_),(3,_),(5,_),(6,_)] ⟨rfl,rfl,rfl,rfl,rfl,rfl,rfl,rfl,rfl,trivial⟩ ?_
          refine AL_nil ?_
          exact ⟨(k + 1, n3, g3), ⟨by omega, hR3, fun j hj => by have := hB3 j hj; omega, hE3, fun e b hb => by
            have hg := hR3.gF e
            by_cases hbk : b = k
            ·subst hbk; exact ⟨hS3 e, fun hh => by rw [hh] at hc25; simp only [Bool.true_and, decide_eq_false_iff_not] at hc25; rw [← hg]; omega⟩
            ·exact hF3 e b (by omega)⟩, by simp only []; omega, ⟨rfl, ⟨rfl, rfl, rfl, rfl, rfl, rfl, rfl, rfl, rfl, trivial⟩, rfl, rfl, rfl⟩⟩
      ·replace hc20 := of_decide_eq_false hc20
       refine AW_exit ?_
       refine AW_region rfl ?_
       refine qm ?_
       refine qp (v := vn (i + 1)) (PO_inc rfl rfl rfl (by first | omega | simp_all; omega)) ?_
       refine qa ?_
       refine AL_keep [(11,_),(9,_),(10,_),(8,_),(0,_),(2,_),(3,_),(5,_),(6,_)] ⟨rfl,rfl,rfl,rfl,rfl,rfl,rfl,rfl,rfl,trivial⟩ ?_
       refine AL_nil ?_
       exact ⟨(i + 1, n2, g2), ⟨by omega, hR2, fun j hj => by have := hB2 j hj; omega, fun e a b ha hb => by
         by_cases hai : a = i
         ·subst hai; exact hD3 e b (by omega)
         ·exact hD2 e a b (by omega) hb⟩, by simp only []; omega, ⟨rfl, ⟨rfl, rfl, rfl, rfl, rfl, rfl, rfl, rfl, trivial⟩, rfl, rfl, rfl⟩⟩
     ·replace hc17 := of_decide_eq_false hc17
      refine AW_exit ?_
      refine AW_seq (AW_seq (AW_region rfl ?_))
      refine qm ?_
      refine qp (v := vb !g) (PO_not (b := g) rfl rfl) ?_
      refine AL_keep [(10,_),(9,_),(8,_),(0,_),(2,_),(3,_),(5,_),(6,_),(114,_)] ⟨rfl,rfl,rfl,rfl,rfl,rfl,rfl,rfl,rfl,trivial⟩ ?_
      refine AL_nil ?_
      refine AW_cond _ rfl (fun hc28 => ?_) (fun hc28 => ?_)
      ·have hgf : g = false := by simpa using hc28
       have hgn := hR1.gF hgf
       have hcl : clR l (predF l []) ns := fun a b ha hb => hD1 hgf a b (by omega) hb
       rw [numV_some ⟨hLo, hHi, hcl, hBel⟩] at hw
       subst hgn
       refine AW_seq (AW_region rfl ?_)
       refine qm ?_
       refine qa ?_
       refine qa (v := vi 0) ?_
       refine AL_keep [(10,_),(9,_),(8,_),(0,_),(2,_),(3,_),(5,_),(6,_)] ⟨rfl,rfl,rfl,rfl,rfl,rfl,rfl,rfl,trivial⟩ ?_
       refine AL_nil ?_
       refine AW_frzn (k := 2) rfl hb (by omega) (by omega) ?_
       refine AW_ret ?_
       exact ret_le2 (.inl rfl) rfl (by rw [hw]; rfl) (.refl _)
      ·refine AW_skip (AW_seq (AW_seq (AW_region rfl ?_)))
       refine qa (v := vi 0) ?_
       refine AL_nil (AW_block ?_)
       refine AW_iter (fun (q : Nat) => [(12, .lit (.int .i64 ((q : Nat) : Int))), (8, .lit (.int .i64 rr)), (0, .sl .any 13 (l.map eRule)), (2, .sl .nil 1 []), (3, .lit (.int .i64 0)), (5, .sl .any 3 ((predF l []).map eTerm)), (6, .ms b 0 1 ((predF l []).length) ((predF l []).length))]) (fun (q : Nat) => (h.upd b (some (.row (ints n1))))) (fun (q : Nat) => q ≤ (predF l []).length ∧ ∀ j, j < q → n1.getD j 0 ≤ (predF l []).length) (fun (q : Nat) => (predF l []).length - q) (0) ⟨rfl, rfl, rfl, rfl, rfl, rfl, rfl, trivial⟩ rfl (⟨by omega, fun j hj => by omega⟩) ?_
       rintro q ⟨hIq, hQ⟩
       refine AW_seq (AW_seq (AW_region rfl ?_))
       refine qm ?_
       refine qm ?_
       refine qp (v := vi ((predF l []).length : Int)) (PO_lenM rfl un37 rfl) ?_
       refine qp (v := vb (decide ((((q : Nat) : Int) : Int) < ((predF l []).length : Int)))) pI ?_
       refine AL_keep [(12,_),(8,_),(0,_),(2,_),(3,_),(5,_),(6,_),(119,_)] ⟨rfl,rfl,rfl,rfl,rfl,rfl,rfl,rfl,trivial⟩ ?_
       refine AL_nil ?_
       refine AW_cond _ rfl (fun hc31 => ?_) (fun hc31 => ?_)
       ·replace hc31 := of_decide_eq_true hc31
        refine AW_skip (AW_seq (AW_block (AW_seq (AW_region rfl ?_))))
        refine qm ?_
        refine qm ?_
        refine qp (v := .ptr b q) (PO_ixj rfl un32 ty3 rfl rfl (by first | omega | (simp only [List.length_set]; omega))) ?_
        refine qp (v := vi (n1.getD q 0)) (PO_ldn rfl ty3 rfl (Heap.upd_same _ _ _) (by first | omega | (simp only [List.length_set]; omega))) ?_
        refine qm ?_
        refine qp (v := vi ((predF l []).length : Int)) (PO_lenM rfl un37 rfl) ?_
        refine qp (v := vb (decide (((n1.getD q 0) : Int) > ((predF l []).length : Int)))) pI ?_
        refine AL_keep [(12,_),(8,_),(0,_),(2,_),(3,_),(5,_),(6,_),(128,_)] ⟨rfl,rfl,rfl,rfl,rfl,rfl,rfl,rfl,trivial⟩ ?_
        refine AL_nil ?_
        refine AW_cond _ rfl (fun hc33 => ?_) (fun hc33 => ?_)
        ·replace hc33 := of_decide_eq_true hc33
         rw [numV_none hR1.bel (show q < (predF l []).length by omega) hc33] at hw
         refine AW_seq (AW_region rfl ?_)
         refine qp (v := .sl .nil 1 []) (PO_nil_assign rfl) ?_
         refine qa (v := vi 6) ?_
         refine AL_nil ?_
         refine AW_any (k := 2) rfl ?_
         refine AW_ret ?_
         exact ret_le2 (.inl rfl) rfl (by rw [hw]; rfl) (Heap.le_upd (.refl _) hb _)
        ·replace hc33 := of_decide_eq_false hc33
         refine AW_skip (AW_region rfl ?_)
         refine qm ?_
         refine qp (v := vn (q + 1)) (PO_inc rfl rfl rfl (by first | omega | simp_all; omega)) ?_
         refine qa ?_
         refine AL_keep [(12,_),(8,_),(0,_),(2,_),(3,_),(5,_),(6,_)] ⟨rfl,rfl,rfl,rfl,rfl,rfl,rfl,trivial⟩ ?_
         refine AL_nil ?_
         exact ⟨q + 1, ⟨by omega, fun j hj => by
           by_cases hjq : j = q
           ·subst hjq; omega
           ·exact hQ j (by omega)⟩, by omega, ⟨rfl, ⟨rfl, rfl, rfl, rfl, rfl, rfl, rfl, trivial⟩, rfl, rfl, rfl⟩⟩
       ·replace hc31 := of_decide_eq_false hc31
        refine AW_exit ?_
        refine AW_region rfl ?_
        refine qa (v := vi 0) ?_
        refine AL_nil (AW_region rfl ?_)
        refine qm (v := vi 0) ?_
        refine qp (v := vn (0 + 1)) (PO_inc rfl rfl rfl (by first | omega | simp_all; omega)) ?_
        refine qa ?_
        refine AL_keep [(12,_),(8,_),(0,_),(2,_),(3,_),(5,_),(6,_)] ⟨rfl,rfl,rfl,rfl,rfl,rfl,rfl,trivial⟩ ?_
        refine AL_nil ?_
        exact ⟨(n1, 1), ⟨by omega, by omega, hR1.lo, fun j hj => hQ j (by omega), hR1.bel⟩, by
         have hgt : g = true := by cases g <;> simp_all
         exact room_lt _ (fun j hj => ⟨hR1.ge j hj, hQ j (by omega)⟩) (hR1.gT hgt), ⟨rfl, ⟨rfl, rfl, rfl, rfl, rfl, rfl, trivial⟩, rfl, rfl, rfl⟩⟩
    ·replace hc13 := of_decide_eq_false hc13
     refine AW_exit ?_
     refine AW_seq (AW_region rfl ?_)
     refine qp (v := .sl .nil 1 []) (PO_nil_assign rfl) ?_
     refine qa (v := vi 6) ?_
     refine AL_nil ?_
     refine AW_any (k := 2) rfl ?_
     refine AW_ret ?_
     exact absurd hc13 (by omega)
end Go.AM.Tryd
end
section
set_option linter.unusedVariables false
set_option linter.unusedSimpArgs false
namespace Go.AM.D
open Go Go.AM Go.AM.Tryd
structure Edg where
  to : Int
  strict : Bool
  deriving DecidableEq
def eEdg (e : Edg) : List AV := [.lit (.int .i64 e.to), .lit (.bool e.strict)]
structure Graph where
  names : List Term
  out : List (List Edg)
def tkey (t : Term) : List Value := [.int .i64 t.kind, .string t.text, .string t.extra]
def atL : List Term → Int → List (List Value × AV)
  | [], _ => []
  | t :: l, i => (tkey t, .lit (.int .i64 i)) :: atL l (i + 1)
def Graph.at_ (g : Graph) : List (List Value × AV) := atL g.names 0
def eGraph (g : Graph) : List AV := [.sl .any 3 (g.names.map eTerm), .im ks25 true g.at_, .sl .any 1 (g.out.map fun l => [.sl .any 2 (l.map eEdg)])]
theorem tkey_eq (a b : Term) : vEqs (tkey a) (tkey b) = decide (a = b) := eTerm_eq a b
theorem atL_get (t : Term) : ∀ (l : List Term) (i : Int), 0 ≤ i → aget (tkey t) (atL l i) = if atF t l i ≥ 0 then some (.lit (.int .i64 (atF t l i))) else none
  | [], i, _ => by simp [atL, aget, atF]
  | x :: l, i, h => by
    rw [atL, aget, tkey_eq, atF]
    by_cases e : t = x
    · subst e; simp [h]
    · have e' : ¬ x = t := fun h => e h.symm
      simp only [e, e', decide_false, if_false]
      exact atL_get t l (i + 1) (by omega)
theorem atF_ge (t : Term) : ∀ (l : List Term) (i : Int), atF t l i = -1 ∨ (i ≤ atF t l i ∧ atF t l i < i + l.length)
  | [], i => by simp [atF]
  | x :: l, i => by
    rw [atF]
    split
    · right; simp; omega
    · rcases atF_ge t l (i + 1) with h | h
      · exact .inl h
      · right; simp; omega
theorem atF_at {t : Term} : ∀ {l : List Term} {i : Int}, atF t l i ≠ -1 → 0 ≤ i → l[(atF t l i - i).toNat]? = some t
  | [], i => by simp [atF]
  | x :: l, i => by
    rw [atF]
    split
    · rename_i e; intro _ _; subst e; simp
    · intro h h0
      have h1 := atF_at (l := l) h (by omega)
      have h2 := (atF_ge t l (i + 1)).resolve_left h
      rw [show (atF t l (i + 1) - i).toNat = (atF t l (i + 1) - (i + 1)).toNat + 1 by omega, List.getElem?_cons_succ]; exact h1
theorem atL_snoc (t : Term) : ∀ (l : List Term) (i : Int), 0 ≤ i → atF t l i = -1 → aput (tkey t) (.lit (.int .i64 (i + l.length))) (atL l i) = atL (l ++ [t]) i
  | [], i, _, _ => by simp [atL, aput]
  | x :: l, i, h, hn => by
    rw [atF] at hn
    split at hn
    · omega
    · rename_i e
      have e' : ¬ t = x := fun h => e h.symm
      have ih := atL_snoc t l (i + 1) (by omega) hn
      simp only [List.cons_append, atL, aput, tkey_eq, e', decide_false]
      rw [← ih]
      simp only [List.length_cons, Int.natCast_add, Int.natCast_one]
      congr 4
      omega
end Go.AM.D
namespace Go.AM.Tryd
open Go Go.AM Go.AM.D
def okG (g : Graph) : Prop := g.names.length ≤ 1048576 ∧ g.out.length = g.names.length ∧ ∀ es ∈ g.out, es.length ≤ 1099511627776 ∧ ∀ e ∈ es, 0 ≤ e.to ∧ e.to < g.names.length
def eok (ns : List Int) (i : Nat) (e : Edg) : Prop := ns.getD e.to.toNat 0 + (if e.strict = true then 1 else 0) ≤ ns.getD i 0
def clP (out : List (List Edg)) (ns : List Int) : Prop := ∀ i, ∀ es, out[i]? = some es → ∀ e ∈ es, eok ns i e
def ofB : Option (List Int) → List Int × Bool
  | some ns => (ns, true)
  | none => ([], false)
noncomputable def numG (g : Graph) : List Int × Bool := ofB (numV (clP g.out) g.names.length)
end Go.AM.Tryd
end
section
set_option maxRecDepth 100000
set_option linter.unusedVariables false
set_option linter.unusedSimpArgs false
namespace Go.AM.Tryd
open Go Go.AM Go.AM.D
theorem numbers_ (g : Graph) (l : List Rule) (hok : okG g) : PFn PR (.fn (.func 31) [] []) [.ip (eGraph g), .sl .any 13 (l.map eRule)] (.tup [.sl .any 1 (((numG g).1).map eI64), .lit (.bool ((numG g).2))]) := by
 have hgn := hok.1
 have hgo := hok.2.1
 refine PFn_of Go.Proofs.Tryd.func31 rfl (by rfl) Go.Proofs.Tryd.ntmps31 rfl (by simp) fun h => ?_
 refine AW_seq (AW_region rfl ?_)
 refine qp (v := .sl .nil 1 []) (PO_nil_assign rfl) ?_
 refine qa (v := vb false) ?_
 refine AL_nil (AW_seq (AW_region rfl ?_))
 refine qm ?_
 refine qp (v := .ip (eGraph g)) (PO_nilCheck_ip rfl rfl) ?_
 refine qp (v := .ip (List.drop 0 (eGraph g))) (PO_fieldAddr rfl f62_0 rfl) ?_
 refine qp (v := vT g.names) (PO_load rfl ty37 rfl rfl) ?_
 refine qp (v := vi (g.names.length : Int)) (PO_lenM rfl un37 rfl) ?_
 refine AL_mkn rfl rfl rfl rfl un32 ty3 z3 by3 rfl rfl (by omega) (by omega) fun b hb => ?_
 refine qa ?_
 refine AL_keep [(0,_),(1,_),(4,_),(5,_),(6,_)] ⟨rfl,rfl,rfl,rfl,rfl,trivial⟩ ?_
 refine AL_nil (AW_seq (AW_seq (AW_region rfl ?_)))
 refine qm ?_
 refine qp (v := vi (g.names.length : Int)) (PO_len_ms rfl un32 rfl) ?_
 refine qm (v := vi 0) ?_
 refine AL_keep [(0,_),(1,_),(4,_),(5,_),(6,_),(21,_),(22,_)] ⟨rfl,rfl,rfl,rfl,rfl,rfl,rfl,trivial⟩ ?_
 refine AL_nil (AW_block ?_)
 refine AW_iter (fun (z : Nat) => [(22, .lit (.int .i64 ((z : Nat) : Int))), (0, .ip (eGraph g)), (4, .sl .nil 1 []), (5, .lit (.bool false)), (6, .ms b 0 1 g.names.length g.names.length), (21, .lit (.int .i64 (g.names.length : Int)))]) (fun (z : Nat) => (h.upd b (some (.row (ints (List.replicate z (1 : Int) ++ List.replicate (g.names.length - z) 0)))))) (fun (z : Nat) => z ≤ g.names.length) (fun (z : Nat) => g.names.length - z) (0) ⟨rfl, rfl, rfl, rfl, rfl, rfl, trivial⟩ (by simp) (by omega) ?_
 intro z hIz
 have hrl : (List.replicate z (1 : Int) ++ List.replicate (g.names.length - z) 0).length = g.names.length := by simp only [List.length_append, List.length_replicate]; omega
 refine AW_seq (AW_region rfl ?_)
 refine qp (v := vb (decide ((((z : Nat) : Int) : Int) < (g.names.length : Int)))) pI ?_
 refine AL_nil (AW_seq ?_)
 refine AW_cond _ rfl (fun hc3 => ?_) (fun hc3 => ?_)
 ·replace hc3 := of_decide_eq_true hc3
  refine AW_skip (AW_seq (AW_block (AW_seq (AW_region rfl ?_))))
  refine qm ?_
  refine qa ?_
  refine AL_keep [(22,_),(0,_),(4,_),(5,_),(6,_),(21,_),(7,_)] ⟨rfl,rfl,rfl,rfl,rfl,rfl,rfl,trivial⟩ ?_
  refine AL_nil (AW_region rfl ?_)
  refine qm ?_
  refine qm ?_
  refine qp (v := .ptr b z) (PO_ixj rfl un32 ty3 rfl rfl (by first | omega | (simp only [List.length_set]; omega))) ?_
  refine AL_stn (ns := (List.replicate z (1 : Int) ++ List.replicate (g.names.length - z) 0)) (j := z) (v := 1) rfl rfl rfl ty3 rfl rfl (by first | omega | (simp only [List.length_set]; omega)) ?_
  refine AL_keep [(22,_),(0,_),(4,_),(5,_),(6,_),(21,_),(7,_)] ⟨rfl,rfl,rfl,rfl,rfl,rfl,rfl,trivial⟩ ?_
  refine AL_nil (AW_region rfl ?_)
  refine qp (v := vn (z + 1)) (PO_inc rfl rfl rfl (by first | omega | simp_all; omega)) ?_
  refine qm ?_
  refine AL_keep [(22,_),(0,_),(4,_),(5,_),(6,_),(21,_),(7,_)] ⟨rfl,rfl,rfl,rfl,rfl,rfl,rfl,trivial⟩ ?_
  refine AL_nil ?_
  exact ⟨z + 1, by omega, by omega, ⟨rfl, ⟨rfl, rfl, rfl, rfl, rfl, rfl, trivial⟩, (by rw [rep_set (by omega)]), rfl, rfl⟩⟩
 ·replace hc3 := of_decide_eq_false hc3
  refine AW_exit ?_
  refine AW_seq (AW_seq (AW_region rfl ?_))
  refine qa (v := vb true) ?_
  refine AL_nil (AW_block ?_)
  refine AW_iter (fun (z_ : List Int × Bool) => match z_ with | (ns, ch) => [(8, .lit (.bool ch)), (0, .ip (eGraph g)), (4, .sl .nil 1 []), (5, .lit (.bool false)), (6, .ms b 0 1 g.names.length g.names.length)]) (fun (z_ : List Int × Bool) => match z_ with | (ns, ch) => (h.upd b (some (.row (ints ns))))) (fun (z_ : List Int × Bool) => match z_ with | (ns, ch) => Lo g.names.length ns ∧ Hi g.names.length ns ∧ Bel (clP g.out) g.names.length ns ∧ (ch = false → clP g.out ns)) (fun (z_ : List Int × Bool) => match z_ with | (ns, ch) => 2 * room g.names.length ns g.names.length + (if ch = true then 1 else 0)) ((List.replicate g.names.length 1, true)) ⟨rfl, rfl, rfl, rfl, rfl, trivial⟩ (by rw [rep_done (by omega)]) (⟨rep_lo _, rep_hi _, rep_bel _ _, nofun⟩) ?_
  rintro ⟨ns, ch⟩ ⟨hLo, hHi, hBel, hCh⟩
  have hnl := hLo.1
  refine AW_seq (AW_seq (AW_region rfl ?_))
  refine qm ?_
  refine AL_nil ?_
  refine AW_cond _ rfl (fun hc8 => ?_) (fun hc8 => ?_)
  ·refine AW_skip (AW_block (AW_seq (AW_region rfl ?_)))
   refine qa (v := vb false) ?_
   refine AL_nil (AW_seq (AW_region rfl ?_))
   refine qm ?_
   refine qp (v := .ip (eGraph g)) (PO_nilCheck_ip rfl rfl) ?_
   refine qp (v := .ip (List.drop 2 (eGraph g))) (PO_fieldAddr rfl f62_2 rfl) ?_
   refine qp (v := .sl .any 1 (g.out.map (fun l => [.sl .any 2 (l.map eEdg)]))) (PO_load rfl ty60 rfl rfl) ?_
   refine qp (v := vi (g.out.length : Int)) (PO_lenM rfl un60 rfl) ?_
   refine qm (v := vi 0) ?_
   refine AL_keep [(8,_),(0,_),(4,_),(5,_),(6,_),(33,_),(34,_),(35,_)] ⟨rfl,rfl,rfl,rfl,rfl,rfl,rfl,rfl,trivial⟩ ?_
   refine AL_nil (AW_block ?_)
   refine AW_iter (fun (z_ : Nat × List Int × Bool) => match z_ with | (i, n1, g1) => [(35, .lit (.int .i64 ((i : Nat) : Int))), (8, .lit (.bool g1)), (0, .ip (eGraph g)), (4, .sl .nil 1 []), (5, .lit (.bool false)), (6, .ms b 0 1 g.names.length g.names.length), (33, .sl .any 1 (g.out.map (fun l => [.sl .any 2 (l.map eEdg)]))), (34, .lit (.int .i64 (g.out.length : Int)))]) (fun (z_ : Nat × List Int × Bool) => match z_ with | (i, n1, g1) => (h.upd b (some (.row (ints n1))))) (fun (z_ : Nat × List Int × Bool) => match z_ with | (i, n1, g1) => i ≤ g.out.length ∧ Rd (clP g.out) g.names.length ns n1 g1 ∧ Hi g.names.length n1 ∧ (g1 = false → ∀ a es, a < i → g.out[a]? = some es → ∀ e ∈ es, eok ns a e)) (fun (z_ : Nat × List Int × Bool) => match z_ with | (i, n1, g1) => g.out.length - i) ((0, ns, false)) ⟨rfl, rfl, rfl, rfl, rfl, rfl, rfl, rfl, trivial⟩ rfl (⟨by omega, .start hLo hBel, hHi, fun _ a es ha => by omega⟩) ?_
   rintro ⟨i, n1, g1⟩ ⟨hIi, hR1, hH1, hD1⟩
   have hn1 := hR1.lo.1
   refine AW_seq (AW_region rfl ?_)
   refine qp (v := vb (decide ((((i : Nat) : Int) : Int) < (g.out.length : Int)))) pI ?_
   refine AL_nil (AW_seq ?_)
   refine AW_cond _ rfl (fun hc11 => ?_) (fun hc11 => ?_)
   ·replace hc11 := of_decide_eq_true hc11
    obtain ⟨es, hres, hdes, hmes⟩ := drop_at (l := g.out) (i := i) (by omega)
    have hi : i < g.names.length := by omega
    have hel := (hok.2.2 es hmes).1
    have helt := (hok.2.2 es hmes).2
    refine AW_skip (AW_seq (AW_block (AW_seq (AW_region rfl ?_))))
    refine qm ?_
    refine qp (v := .ip ((fun l => [.sl .any 2 (l.map eEdg)]) es)) (PO_indexAddr rfl un60 ty81 rfl rfl (by first | decide | omega) (mget hres)) ?_
    refine qp (v := .sl .any 2 (es.map eEdg)) (PO_load rfl ty81 rfl rfl) ?_
    refine qa ?_
    refine qa ?_
    refine AL_keep [(35,_),(8,_),(0,_),(4,_),(5,_),(6,_),(33,_),(34,_),(9,_),(10,_)] ⟨rfl,rfl,rfl,rfl,rfl,rfl,rfl,rfl,rfl,rfl,trivial⟩ ?_
    refine AL_nil (AW_seq (AW_region rfl ?_))
    refine qm ?_
    refine qp (v := vi (es.length : Int)) (PO_lenM rfl un81 rfl) ?_
    refine qm (v := vi 0) ?_
    refine AL_nil (AW_block ?_)
    refine AW_iter (fun (z_ : Nat × List Int × Bool) => match z_ with | (k, n2, g2) => [(42, .lit (.int .i64 ((k : Nat) : Int))), (8, .lit (.bool g2)), (35, .lit (.int .i64 ((i : Nat) : Int))), (0, .ip (eGraph g)), (4, .sl .nil 1 []), (5, .lit (.bool false)), (6, .ms b 0 1 g.names.length g.names.length), (33, .sl .any 1 (g.out.map (fun l => [.sl .any 2 (l.map eEdg)]))), (34, .lit (.int .i64 (g.out.length : Int))), (9, .lit (.int .i64 ((i : Nat) : Int))), (40, .sl .any 2 (es.map eEdg)), (41, .lit (.int .i64 (es.length : Int)))]) (fun (z_ : Nat × List Int × Bool) => match z_ with | (k, n2, g2) => (h.upd b (some (.row (ints n2))))) (fun (z_ : Nat × List Int × Bool) => match z_ with | (k, n2, g2) => k ≤ es.length ∧ Rd (clP g.out) g.names.length ns n2 g2 ∧ Hi g.names.length n2 ∧ (g2 = false → ∀ a es, a < i → g.out[a]? = some es → ∀ e ∈ es, eok ns a e) ∧ (g2 = false → ∀ e ∈ es.take k, eok ns i e)) (fun (z_ : Nat × List Int × Bool) => match z_ with | (k, n2, g2) => es.length - k) ((0, n1, g1)) ⟨rfl, rfl, rfl, rfl, rfl, rfl, rfl, rfl, rfl, rfl, rfl, rfl, trivial⟩ rfl (⟨by omega, hR1, hH1, hD1, fun _ e he => by simp at he⟩) ?_
    rintro ⟨k, n2, g2⟩ ⟨hIk, hR2, hH2, hD2, hD3⟩
    have hn2 := hR2.lo.1
    refine AW_seq (AW_region rfl ?_)
    refine qp (v := vb (decide ((((k : Nat) : Int) : Int) < (es.length : Int)))) pI ?_
    refine AL_nil (AW_seq ?_)
    refine AW_cond _ rfl (fun hc14 => ?_) (fun hc14 => ?_)
    ·replace hc14 := of_decide_eq_true hc14
     obtain ⟨x, hrx, hdx, hmx⟩ := drop_at (l := es) (i := k) (by omega)
     have hto := helt x hmx
     have hhk := hH2 x.to.toNat (by omega)
     have hhl := hR2.lo.2 x.to.toNat (by omega)
     refine AW_skip (AW_seq (AW_block (AW_seq (AW_region rfl ?_))))
     refine qp (v := .ip (eEdg x)) (PO_indexAddr rfl un81 ty83 rfl rfl (by first | decide | omega) (mget hrx)) ?_
     refine qp (v := .agg (eEdg x)) (PO_load rfl ty83 rfl rfl) ?_
     refine AL_als rfl rfl rfl rfl rfl rfl al83 rfl rfl rfl rfl rfl ?_
     refine AL_keep [(42,_),(8,_),(35,_),(0,_),(4,_),(5,_),(6,_),(33,_),(34,_),(9,_),(40,_),(41,_),(12,_)] ⟨rfl,rfl,rfl,rfl,rfl,rfl,rfl,rfl,rfl,rfl,rfl,rfl,rfl,trivial⟩ ?_
     refine AL_nil (AW_seq (AW_region rfl ?_))
     refine qm ?_
     refine qp (v := .ip (List.drop 0 (eEdg x))) (PO_fieldAddr rfl f83_0 rfl) ?_
     refine qp (v := vi x.to) (PO_load rfl ty3 rfl rfl) ?_
     refine qp (v := .ptr b ((x.to).toNat)) (PO_ixn (i := x.to) rfl un32 ty3 rfl rfl (by first | decide | omega) (by first | omega | (simp only [List.length_set]; omega))) ?_
     refine qp (v := vi (n2.getD (x.to).toNat 0)) (PO_ldn rfl ty3 rfl (Heap.upd_same _ _ _) (by first | omega | (simp only [List.length_set]; omega))) ?_
     refine qa ?_
     refine AL_keep [(42,_),(8,_),(35,_),(0,_),(4,_),(5,_),(6,_),(33,_),(34,_),(9,_),(40,_),(41,_),(12,_),(13,_)] ⟨rfl,rfl,rfl,rfl,rfl,rfl,rfl,rfl,rfl,rfl,rfl,rfl,rfl,rfl,trivial⟩ ?_
     refine AL_nil ?_
     refine AW_join (α := Int) (fun (least : Int) => [(13, .lit (.int .i64 least)), (42, .lit (.int .i64 ((k : Nat) : Int))), (8, .lit (.bool g2)), (35, .lit (.int .i64 ((i : Nat) : Int))), (0, .ip (eGraph g)), (4, .sl .nil 1 []), (5, .lit (.bool false)), (6, .ms b 0 1 g.names.length g.names.length), (33, .sl .any 1 (g.out.map (fun l => [.sl .any 2 (l.map eEdg)]))), (34, .lit (.int .i64 (g.out.length : Int))), (9, .lit (.int .i64 ((i : Nat) : Int))), (40, .sl .any 2 (es.map eEdg)), (41, .lit (.int .i64 (es.length : Int)))]) (fun (least : Int) => (h.upd b (some (.row (ints n2))))) (fun (least : Int) => least = n2.getD x.to.toNat 0 + (if x.strict = true then 1 else 0)) ?_ ?_
     ·refine AW_seq (AW_region rfl ?_)
      refine qp (v := .ip (List.drop 1 (eEdg x))) (PO_fieldAddr rfl f83_1 rfl) ?_
      refine qp (v := vb x.strict) (PO_load rfl ty4 rfl rfl) ?_
      refine AL_keep [(42,_),(8,_),(35,_),(0,_),(4,_),(5,_),(6,_),(33,_),(34,_),(9,_),(40,_),(41,_),(12,_),(13,_),(52,_)] ⟨rfl,rfl,rfl,rfl,rfl,rfl,rfl,rfl,rfl,rfl,rfl,rfl,rfl,rfl,rfl,trivial⟩ ?_
      refine AL_nil ?_
      refine AW_cond _ rfl (fun hc17 => ?_) (fun hc17 => ?_)
      ·refine AW_region rfl ?_
       refine qm ?_
       refine qp (v := vi ((n2.getD (x.to).toNat 0) + 1)) (PO_fit rfl rfl rfl rfl trivial (i64w (by omega) (by omega))) ?_
       refine qa ?_
       refine AL_keep [(42,_),(8,_),(35,_),(0,_),(4,_),(5,_),(6,_),(33,_),(34,_),(9,_),(40,_),(41,_),(12,_),(13,_)] ⟨rfl,rfl,rfl,rfl,rfl,rfl,rfl,rfl,rfl,rfl,rfl,rfl,rfl,rfl,trivial⟩ ?_
       refine AL_nil ?_
       exact ⟨_, by rw [if_pos hc17], ⟨rfl, ⟨rfl, rfl, rfl, rfl, rfl, rfl, rfl, rfl, rfl, rfl, rfl, rfl, rfl, trivial⟩, rfl, rfl, rfl⟩⟩
      ·refine AW_skip ?_
       exact ⟨_, by rw [if_neg (by rw [hc17]; simp), Int.add_zero], ⟨rfl, ⟨rfl, rfl, rfl, rfl, rfl, rfl, rfl, rfl, rfl, rfl, rfl, rfl, rfl, trivial⟩, rfl, rfl, rfl⟩⟩
     ·rintro least hlst
      refine AW_join (α := List Int × Bool) (fun (z_ : List Int × Bool) => match z_ with | (n3, g3) => [(8, .lit (.bool g3)), (42, .lit (.int .i64 ((k : Nat) : Int))), (35, .lit (.int .i64 ((i : Nat) : Int))), (0, .ip (eGraph g)), (4, .sl .nil 1 []), (5, .lit (.bool false)), (6, .ms b 0 1 g.names.length g.names.length), (33, .sl .any 1 (g.out.map (fun l => [.sl .any 2 (l.map eEdg)]))), (34, .lit (.int .i64 (g.out.length : Int))), (9, .lit (.int .i64 ((i : Nat) : Int))), (40, .sl .any 2 (es.map eEdg)), (41, .lit (.int .i64 (es.length : Int)))]) (fun (z_ : List Int × Bool) => match z_ with | (n3, g3) => (h.upd b (some (.row (ints n3))))) (fun (z_ : List Int × Bool) => match z_ with | (n3, g3) => Rd (clP g.out) g.names.length ns n3 g3 ∧ (∀ j, j < g.names.length → j ≠ i → n3.getD j 0 ≤ g.names.length) ∧ (g3 = false → ∀ a es, a < i → g.out[a]? = some es → ∀ e ∈ es, eok ns a e) ∧ (g3 = false → ∀ e ∈ es.take k, eok ns i e) ∧ (g3 = false → eok ns i x)) ?_ ?_
      ·refine AW_seq (AW_region rfl ?_)
       refine qm ?_
       refine qm ?_
       refine qp (v := .ptr b i) (PO_ixj rfl un32 ty3 rfl rfl (by first | omega | (simp only [List.length_set]; omega))) ?_
       refine qp (v := vi (n2.getD i 0)) (PO_ldn rfl ty3 rfl (Heap.upd_same _ _ _) (by first | omega | (simp only [List.length_set]; omega))) ?_
       refine qm ?_
       refine qp (v := vb (decide (((n2.getD i 0) : Int) < least))) pI ?_
       refine AL_keep [(13,_),(42,_),(8,_),(35,_),(0,_),(4,_),(5,_),(6,_),(33,_),(34,_),(9,_),(40,_),(41,_),(60,_)] ⟨rfl,rfl,rfl,rfl,rfl,rfl,rfl,rfl,rfl,rfl,rfl,rfl,rfl,rfl,trivial⟩ ?_
       refine AL_nil ?_
       refine AW_cond _ rfl (fun hc19 => ?_) (fun hc19 => ?_)
       ·replace hc19 := of_decide_eq_true hc19
        refine AW_region rfl ?_
        refine qm ?_
        refine qm ?_
        refine qm ?_
        refine qp (v := .ptr b i) (PO_ixj rfl un32 ty3 rfl rfl (by first | omega | (simp only [List.length_set]; omega))) ?_
        refine AL_stn (ns := n2) (j := i) (v := least) rfl rfl rfl ty3 rfl rfl (by first | omega | (simp only [List.length_set]; omega)) ?_
        refine qa (v := vb true) ?_
        refine AL_keep [(13,_),(42,_),(8,_),(35,_),(0,_),(4,_),(5,_),(6,_),(33,_),(34,_),(9,_),(40,_),(41,_)] ⟨rfl,rfl,rfl,rfl,rfl,rfl,rfl,rfl,rfl,rfl,rfl,rfl,rfl,trivial⟩ ?_
        refine AL_nil ?_
        exact ⟨(n2.set i least, true), ⟨hR2.step hi (by omega) (fun ms hm hc => by
          have h1 := hR2.bel ms hm hc x.to.toNat (by omega)
          have h2 : ms.getD x.to.toNat 0 + (if x.strict = true then 1 else 0) ≤ ms.getD i 0 := hc i es hres x hmx
          omega), fun j hj hji => by rw [getD_set (by omega), if_neg (by omega)]; exact hH2 j hj, nofun, nofun, nofun⟩, ⟨rfl, ⟨rfl, rfl, rfl, rfl, rfl, rfl, rfl, rfl, rfl, rfl, rfl, rfl, trivial⟩, rfl, rfl, rfl⟩⟩
       ·replace hc19 := of_decide_eq_false hc19
        refine AW_skip ?_
        exact ⟨(n2, g2), ⟨hR2, fun j hj _ => hH2 j hj, hD2, hD3, fun e => by
          have hg := hR2.gF e
          rw [← hg, eok]; omega⟩, ⟨rfl, ⟨rfl, rfl, rfl, rfl, rfl, rfl, rfl, rfl, rfl, rfl, rfl, rfl, trivial⟩, rfl, rfl, rfl⟩⟩
      ·rintro ⟨n3, g3⟩ ⟨hR3, hB3, hE3, hF3, hS3⟩
       have hn3 := hR3.lo.1
       refine AW_seq (AW_region rfl ?_)
       refine qm ?_
       refine qm ?_
       refine qp (v := .ptr b i) (PO_ixj rfl un32 ty3 rfl rfl (by first | omega | (simp only [List.length_set]; omega))) ?_
       refine qp (v := vi (n3.getD i 0)) (PO_ldn rfl ty3 rfl (Heap.upd_same _ _ _) (by first | omega | (simp only [List.length_set]; omega))) ?_
       refine qm ?_
       refine qp (v := vi (g.names.length : Int)) (PO_len_ms rfl un32 rfl) ?_
       refine qp (v := vb (decide (((n3.getD i 0) : Int) > (g.names.length : Int)))) pI ?_
       refine AL_keep [(8,_),(42,_),(35,_),(0,_),(4,_),(5,_),(6,_),(33,_),(34,_),(9,_),(40,_),(41,_),(71,_)] ⟨rfl,rfl,rfl,rfl,rfl,rfl,rfl,rfl,rfl,rfl,rfl,rfl,rfl,trivial⟩ ?_
       refine AL_nil ?_
       refine AW_cond _ rfl (fun hc21 => ?_) (fun hc21 => ?_)
       ·replace hc21 := of_decide_eq_true hc21
        have hw : numG g = ([], false) := by rw [numG, numV_none hR3.bel hi hc21]; rfl
        refine AW_seq (AW_region rfl ?_)
        refine qp (v := .sl .nil 1 []) (PO_nil_assign rfl) ?_
        refine qa (v := vb false) ?_
        refine AL_nil ?_
        refine AW_any (k := 4) rfl ?_
        refine AW_ret ?_
        exact ret_le2 (.inl rfl) rfl (by rw [hw]; rfl) (Heap.le_upd (.refl _) hb _)
       ·replace hc21 := of_decide_eq_false hc21
        refine AW_skip (AW_region rfl ?_)
        refine qp (v := vn (k + 1)) (PO_inc rfl rfl rfl (by first | omega | simp_all; omega)) ?_
        refine qm ?_
        refine AL_keep [(8,_),(42,_),(35,_),(0,_),(4,_),(5,_),(6,_),(33,_),(34,_),(9,_),(40,_),(41,_)] ⟨rfl,rfl,rfl,rfl,rfl,rfl,rfl,rfl,rfl,rfl,rfl,rfl,trivial⟩ ?_
        refine AL_nil ?_
        exact ⟨(k + 1, n3, g3), ⟨by omega, hR3, fun j hj => by
          by_cases hji : j = i
          ·subst hji; omega
          ·exact hB3 j hj hji, hE3, fun e x hx => by
          rw [List.take_add_one, hrx, Option.toList_some, List.mem_append, List.mem_singleton] at hx
          rcases hx with hx | rfl
          ·exact hF3 e x hx
          ·exact hS3 e⟩, by simp only []; omega, ⟨rfl, ⟨rfl, rfl, rfl, rfl, rfl, rfl, rfl, rfl, rfl, rfl, rfl, rfl, trivial⟩, rfl, rfl, rfl⟩⟩
    ·replace hc14 := of_decide_eq_false hc14
     refine AW_exit ?_
     refine AW_region rfl ?_
     refine qp (v := vn (i + 1)) (PO_inc rfl rfl rfl (by first | omega | simp_all; omega)) ?_
     refine qm ?_
     refine AL_keep [(42,_),(8,_),(35,_),(0,_),(4,_),(5,_),(6,_),(33,_),(34,_),(9,_),(40,_),(41,_)] ⟨rfl,rfl,rfl,rfl,rfl,rfl,rfl,rfl,rfl,rfl,rfl,rfl,trivial⟩ ?_
     refine AL_nil ?_
     exact ⟨(i + 1, n2, g2), ⟨by omega, hR2, hH2, fun e a as_ ha hb => by
       by_cases hai : a = i
       ·subst hai; rw [hres] at hb; injection hb with hb; subst hb; exact fun x hx => hD3 e x (by rwa [show k = es.length by omega, List.take_of_length_le (Nat.le_refl _)])
       ·exact hD2 e a as_ (by omega) hb⟩, by simp only []; omega, ⟨rfl, ⟨rfl, rfl, rfl, rfl, rfl, rfl, rfl, rfl, trivial⟩, rfl, rfl, rfl⟩⟩
   ·replace hc11 := of_decide_eq_false hc11
    refine AW_exit ?_
    exact ⟨(n1, g1), ⟨hR1.lo, hH1, hR1.bel, fun e => by rw [hR1.gF e]; exact fun a es ha => hD1 e a es (by have := (List.getElem?_eq_some_iff.1 ha).1; omega) ha⟩, by
     subst hc8
     simp only [if_pos rfl]
     cases g1 with
     | true =>
      have := room_lt (m := g.names.length) (a := ns) (b := n1) g.names.length (fun j hj => ⟨hR1.ge j hj, hH1 j hj⟩) (hR1.gT rfl)
      simp only [if_pos rfl]; omega
     | false =>
      rw [hR1.gF rfl]; simp, ⟨rfl, ⟨rfl, rfl, rfl, rfl, rfl, trivial⟩, rfl, rfl, rfl⟩⟩
  ·have hw : numG g = (ns, true) := by rw [numG, numV_some ⟨hLo, hHi, hCh hc8, hBel⟩]; rfl
   refine AW_exit ?_
   refine AW_seq (AW_region rfl ?_)
   refine qm ?_
   refine qa ?_
   refine qa (v := vb true) ?_
   refine AL_keep [(8,_),(0,_),(4,_),(5,_),(6,_)] ⟨rfl,rfl,rfl,rfl,rfl,trivial⟩ ?_
   refine AL_nil ?_
   refine AW_frzn (k := 4) rfl hb (by omega) (by omega) ?_
   refine AW_ret ?_
   exact ret_le2 (.inl rfl) rfl (by rw [hw]) (.refl _)
end Go.AM.Tryd
end
section
set_option linter.unusedVariables false
set_option linter.unusedSimpArgs false
namespace Go.AM
open Go.RowKit Go.AM.D
section
variable {P : Program} {ρ : Option Nat} {Q : Exit → AS → Prop} {o : Oper} {ops : Array Oper} {l : List Oper} {n d : Nat} {tm : List (Nat × AV)} {h h0 : Heap} {ms : List Nat} {σ : AS}
theorem Forest.le {α : Type} {f : α → List AV} {S : Nat} {hp hq h0 : Heap} {bo : Nat} {fo : List (Gs α)} (h : Forest f S hp h0 bo fo) (h1 : hq bo = hp bo) (h2 : ∀ b m, hp b = some (.tok m S) → hq b = some (.tok m S)) : Forest f S hq h0 bo fo :=
  ⟨h1.trans h.row, h.toks.le h2, h.sz⟩
theorem Forest.app {α : Type} {f : α → List AV} {S i : Nat} {hp hq h0 : Heap} {bo : Nat} {fo : List (Gs α)} {own2 : Own} {acc : List α} (h : Forest f S hp h0 bo fo) (hi : i < fo.length) (hs : Same hp hq) (hT : Toks S hq h0 ((fo.map Gs.ow).set i (own2, acc.length))) :
    Forest f S (hq.upd bo (some (.row (setCells (fo.map (Gs.cell f)) i [.sl own2 S (acc.map f)])))) h0 bo (fo.set i ⟨own2, S, acc⟩) := by
  have hrow := hs.row h.row
  have e : (fo.map Gs.ow).set i (own2, acc.length) = (fo.set i ⟨own2, S, acc⟩).map Gs.ow := by rw [List.map_set]; rfl
  rw [e] at hT
  refine ⟨?_, hT.upd (fun m S e => by rw [hrow] at e; cases e), fun p hp => ?_⟩
  · rw [Heap.upd_same]
    exact congrArg (fun c => some (AObj.row c)) (gs_set (p := ⟨own2, S, acc⟩) hi)
  · rcases List.mem_or_eq_of_mem_set hp with hp | rfl
    · exact h.sz p hp
    · exact .inl rfl
end
theorem Same.upd {hp hq : Heap} (h : Same hp hq) {b : Nat} {x : Option AObj} (hb : hp b = none) : Same hp (hq.upd b x) := fun q o e hn => by
  rw [Heap.upd_other _ (fun e2 => by subst e2; rw [hb] at e; cases e)]; exact h q o e hn
end Go.AM
namespace Go.AM.Tryd
open Go Go.AM Go.AM.D
def lookI (t : Term) (names : List Term) : Int := if atF t names 0 ≥ 0 then atF t names 0 else 0
def lookB (t : Term) (names : List Term) : Bool := decide (atF t names 0 ≥ 0)
theorem look_tup {t : Term} {names : List Term} : alook true (aget (tkey t) (atL names 0)) zv3 = .tup [.lit (.int .i64 (lookI t names)), .lit (.bool (lookB t names))] := by
  rw [atL_get t names 0 (by omega), lookI, lookB]
  by_cases h : atF t names 0 ≥ 0 <;> simp [h, alook]
theorem look_one {t : Term} {names : List Term} : alook false (aget (tkey t) (atL names 0)) zv3 = .lit (.int .i64 (lookI t names)) := by
  rw [atL_get t names 0 (by omega), lookI]
  by_cases h : atF t names 0 ≥ 0 <;> simp [h, alook]
theorem lookI_lt {t : Term} {names : List Term} (h : atF t names 0 ≠ -1) : 0 ≤ lookI t names ∧ lookI t names < names.length ∧ lookI t names = atF t names 0 := by
  have := (atF_ge t names 0).resolve_left h
  rw [lookI, if_pos (by omega)]; omega
def bods : List Rule → Nat
  | [] => 0
  | r :: l => r.body.length + bods l
def edgeL (names : List Term) (x : Lt) : List Edg :=
  if (decide (x.kind ≠ 1) && decide (x.kind ≠ 2)) = true then [] else if x.pat.b.var ≠ ⟨#[]⟩ then (List.range names.length).map (fun (k : Nat) => ⟨k, false⟩) else if lookB x.pat.b.term names = true then [⟨lookI x.pat.b.term names, decide (x.kind = 2)⟩] else []
def edgesL (names : List Term) : List Lt → List Edg
  | [] => []
  | x :: b => edgeL names x ++ edgesL names b
def addE (o : List (List Edg)) (i : Nat) (es : List Edg) : List (List Edg) := o.set i (o.getD i [] ++ es)
def outF (names : List Term) : List Rule → List (List Edg) → List (List Edg)
  | [], o => o
  | r :: l, o => if r.head.b.var ≠ ⟨#[]⟩ then outF names l o else outF names l (addE o (lookI r.head.b.term names).toNat (edgesL names r.body))
def seeG (l : List Rule) : Graph := ⟨predF l [], outF (predF l []) l (List.replicate (predF l []).length [])⟩
theorem addE_nil {o : List (List Edg)} {i : Nat} (h : i < o.length) : addE o i [] = o := by
  rw [addE, List.append_nil, List.getD_eq_getElem?_getD, List.getElem?_eq_getElem h]
  exact List.set_getElem_self h
theorem addE_len (o : List (List Edg)) (i : Nat) (es : List Edg) : (addE o i es).length = o.length := by rw [addE, List.length_set]
theorem addE_cons {o : List (List Edg)} {i : Nat} {e : Edg} {es : List Edg} (h : i < o.length) : addE o i (e :: es) = addE (o.set i (o.getD i [] ++ [e])) i es := by
  rw [addE, addE, List.set_set]
  have : (o.set i (o.getD i [] ++ [e])).getD i [] = o.getD i [] ++ [e] := by simp [List.getD_eq_getElem?_getD, h]
  rw [this, List.append_assoc]; rfl
theorem atF_app {t : Term} : ∀ {l m : List Term} {i : Int}, 0 ≤ i → atF t l i ≠ -1 → atF t (l ++ m) i ≠ -1
  | [], m, i, _, h => by simp [atF] at h
  | x :: l, m, i, h0, h => by
    rw [atF] at h; rw [List.cons_append, atF]
    split
    · omega
    · rename_i e; rw [if_neg e] at h; exact atF_app (by omega) h
theorem atF_last {t : Term} : ∀ {l : List Term} {i : Int}, 0 ≤ i → atF t (l ++ [t]) i ≠ -1
  | [], i, h => by simp [atF]; omega
  | x :: l, i, h => by
    rw [List.cons_append, atF]; split
    · omega
    · exact atF_last (by omega)
theorem predF_keep {t : Term} : ∀ (l : List Rule) {acc : List Term}, atF t acc 0 ≠ -1 → atF t (predF l acc) 0 ≠ -1
  | [], acc, h => h
  | r :: l, acc, h => by
    rw [predF]; split
    · exact predF_keep l (atF_app (by omega) h)
    · exact predF_keep l h
theorem predF_has {r : Rule} : ∀ {l : List Rule} {acc : List Term}, r ∈ l → r.head.b.var = ⟨#[]⟩ → atF r.head.b.term (predF l acc) 0 ≠ -1
  | x :: l, acc, hm, hv => by
    rw [predF]
    rcases List.mem_cons.1 hm with rfl | hm
    · split
      · exact predF_keep l (atF_last (by omega))
      · rename_i h
        refine predF_keep l ?_
        have hge := atF_ge r.head.b.term acc 0
        simp only [hv, decide_true, Bool.true_and, decide_eq_true_eq] at h
        omega
    · split <;> exact predF_has hm hv
end Go.AM.Tryd
end
section
set_option linter.unusedVariables false
set_option linter.unusedSimpArgs false
namespace Go.AM
open Go.RowKit Go.AM.D
section
variable {P : Program} {ρ : Option Nat} {Q : Exit → AS → Prop} {o : Oper} {ops : Array Oper} {l : List Oper} {n d : Nat} {tm : List (Nat × AV)} {h h0 : Heap} {ms : List Nat} {σ : AS}
theorem AW_graph {α β : Type} {f : α → List AV} {f1 : β → List AV} {S S1 bg bm bo m k : Nat} {q : Gs β} {fo : List (Gs α)} {ks : List CK} {agg : Bool} {es : List (List Value × AV)} {c : Code} (hk : look tm k = some (.ptr bg 0))
    (hrow : h bg = some (.row [q.cell f1, .mp bm, .ms bo 0 1 m m])) (hmap : h bm = some (.map ks agg es)) (hfo : h bo = some (.row (fo.map (Gs.cell f)))) (hq : q.S = S1 ∨ q.l = []) (hfs : ∀ p ∈ fo, p.S = S ∨ p.l = []) (hm : fo.length = m) (hne : bg ≠ bo)
    (kk : AW P ρ c Q ⟨n, (k, .ip [.sl .any S1 (q.l.map f1), .im ks agg es, .sl .any 1 (fo.map fun p => [.sl .any S (p.l.map f)])]) :: tm, ((h.upd bm none).upd bo none).upd bg none, ms, h0⟩) : AW P ρ c Q ⟨n, tm, h, ms, h0⟩ := by
  have n1 : bg ≠ bm := fun e => by rw [e, hmap] at hrow; cases hrow
  have n2 : bo ≠ bm := fun e => by rw [e, hmap] at hfo; cases hfo
  refine AW_ghost (ghost_inMp (j := 1) hmap hrow rfl) ?_
  have e1 : ((h.upd bm none).upd bg (some (.row ([q.cell f1, .mp bm, .ms bo 0 1 m m].set 1 (.im ks agg es))))) bo = some (.row (fo.map (Gs.cell f))) := by
    rw [Heap.upd_other _ (Ne.symm hne), Heap.upd_other _ n2]; exact hfo
  refine AW_ghost (ghost_rowW (ds' := fo.map fun p => .sl .any S (p.l.map f)) e1 (by simp) fun i x y hx hy => ?_) ?_
  · rw [List.getElem?_map, Option.map_eq_some_iff] at hx hy
    obtain ⟨p, hp, rfl⟩ := hx
    obtain ⟨p', hp', rfl⟩ := hy
    rw [hp] at hp'; injection hp' with hp'; subst hp'
    exact ⟨fun _ => rfl, fun I v hv => VR.gs (hfs p (List.mem_of_getElem? hp)) hv⟩
  refine AW_ghost (ghost_in (b := bo) (c := bg) (cs := fo.map fun p => .sl .any S (p.l.map f)) (ds := [q.cell f1, .im ks agg es, .ms bo 0 1 m m]) (ds' := [q.cell f1, .im ks agg es, .sl .any 1 (fo.map fun p => [.sl .any S (p.l.map f)])]) (Heap.upd_same _ _ _) (by rw [Heap.upd_other _ hne, Heap.upd_same]; rfl) hne rfl fun i x y hx hy => ?_) ?_
  · rcases i with _ | _ | _ | i
    · injection hx with hx; injection hy with hy; subst hx; subst hy; exact ⟨id, .refl _⟩
    · injection hx with hx; injection hy with hy; subst hx; subst hy; exact ⟨id, .refl _⟩
    · injection hx with hx; injection hy with hy; subst hx; subst hy
      refine ⟨fun _ => rfl, .ms 0 1 m m _ (by simpa using hm) (by simp) (fun i e j a h1 h2 => ?_) (Nat.le_refl _)⟩
      rw [List.getElem?_map, Option.map_eq_some_iff] at h1
      obtain ⟨p, hp, rfl⟩ := h1
      have hj : j = 0 := by have := (List.getElem?_eq_some_iff.1 h2).1; simpa using this
      subst hj
      injection h2 with h2
      subst h2
      simp [hp]
    · simp at hx
  refine AW_ghost (ghost_rowW (ds' := [.sl .any S1 (q.l.map f1), .im ks agg es, .sl .any 1 (fo.map fun p => [.sl .any S (p.l.map f)])]) (Heap.upd_same _ _ _) rfl fun i x y hx hy => ?_) ?_
  · rcases i with _ | _ | _ | i
    · injection hx with hx; injection hy with hy; subst hx; subst hy; exact ⟨fun _ => rfl, fun I v hv => VR.gs hq hv⟩
    · injection hx with hx; injection hy with hy; subst hx; subst hy; exact ⟨id, fun _ _ => id⟩
    · injection hx with hx; injection hy with hy; subst hx; subst hy; exact ⟨id, fun _ _ => id⟩
    · simp at hx
  refine AW_ghost (σ' := ⟨n, (k, .ip ([.sl .any S1 (q.l.map f1), .im ks agg es, .sl .any 1 (fo.map fun p => [.sl .any S (p.l.map f)])].drop 0)) :: tm, _, ms, h0⟩) (ghost_freeze (b := bg) (Heap.upd_same _ _ _) fun i y hy => ?_) ?_
  · rw [look_cons] at hy
    by_cases hi : k = i
    · rw [if_pos hi] at hy
      injection hy with hy
      subst hi; subst hy
      exact ⟨_, hk, .ptr 0⟩
    · rw [if_neg hi] at hy
      exact ⟨y, hy, .refl _⟩
  · have he : ∀ X Y Z W : Option AObj, ((((((h.upd bm none).upd bg X).upd bo Y).upd bo none).upd bg Z).upd bg W).upd bg none = ((h.upd bm none).upd bo none).upd bg none := by
      intro X Y Z W
      funext x
      simp only [Heap.upd]
      by_cases h1 : x = bg <;> by_cases h2 : x = bo <;> by_cases h3 : x = bm <;> simp_all
    rw [show ∀ X Y Z W : Option AObj, (AS.mk n tm ((((((h.upd bm none).upd bg X).upd bo Y).upd bo none).upd bg Z).upd bg W) ms h0).h.upd bg none = ((h.upd bm none).upd bo none).upd bg none from he]
    exact kk
theorem AL_storeC {x y : Operand} {t : TypeId} {dd : TypeDesc} {m b off : Nat} {cs vs : List AV} {v : AV} (hvs : acells v = vs) (hg : o.guard = none) (hdst : o.dst = none) (ho : o.op = .store t x y) (ht : TyF P t dd m) (hx : ev tm x = some (.ptr b off)) (hy : ev tm y = some v) (hb : h b = some (.row cs))
    (h1 : acell1 v = true) (hn : vs.length = m) (hle : off + m ≤ cs.length) (k : AL P ρ ops l Q ⟨n, tm, h.upd b (some (.row (setCells cs off vs))), ms, h0⟩) : AL P ρ ops (o :: l) Q ⟨n, tm, h, ms, h0⟩ := by
  subst hvs; exact AL_store hg hdst ho ht hx hy hb h1 hn hle k
end
end Go.AM
namespace Go.AM.Tryd
open Go Go.AM Go.AM.D
section
variable {ρ : Option Nat} {o : Oper} {n : Nat} {tm : List (Nat × AV)} {h h0 : Heap} {ms : List Nat} {σ : AS}
theorem PO_lookT {m x : Operand} {b : Nat} {t : Term} {names : List Term} (ho : o.op = .lookup 59 m x true) (hm : ev σ.tm m = some (.mp b)) (hb : σ.h b = some (.map ks25 true (atL names 0))) (hx : ev σ.tm x = some (.agg (eTerm t))) : PO PR ρ o σ (.tup [.lit (.int .i64 (lookI t names)), .lit (.bool (lookB t names))]) := by
  rw [← look_tup]; exact PO_lookup (k := tkey t) ho un59 key25 zw3 hm hb hx rfl rfl
theorem PO_lookO {m x : Operand} {b : Nat} {t : Term} {names : List Term} (ho : o.op = .lookup 59 m x false) (hm : ev σ.tm m = some (.mp b)) (hb : σ.h b = some (.map ks25 true (atL names 0))) (hx : ev σ.tm x = some (.agg (eTerm t))) : PO PR ρ o σ (.lit (.int .i64 (lookI t names))) := by
  rw [← look_one]; exact PO_lookup (k := tkey t) ho un59 key25 zw3 hm hb hx rfl rfl
theorem PO_lookT' {m x : Operand} {t : Term} {names : List Term} (ho : o.op = .lookup 59 m x true) (hm : ev σ.tm m = some (.im ks25 true (atL names 0))) (hx : ev σ.tm x = some (.agg (eTerm t))) : PO PR ρ o σ (.tup [.lit (.int .i64 (lookI t names)), .lit (.bool (lookB t names))]) := by
  rw [← look_tup]; exact PO_lookup_im (k := tkey t) ho un59 key25 zw3 hm hx rfl rfl
theorem PO_lookO' {m x : Operand} {t : Term} {names : List Term} (ho : o.op = .lookup 59 m x false) (hm : ev σ.tm m = some (.im ks25 true (atL names 0))) (hx : ev σ.tm x = some (.agg (eTerm t))) : PO PR ρ o σ (.lit (.int .i64 (lookI t names))) := by
  rw [← look_one]; exact PO_lookup_im (k := tkey t) ho un59 key25 zw3 hm hx rfl rfl
end
end Go.AM.Tryd
end
section
set_option linter.unusedVariables false
set_option linter.unusedSimpArgs false
namespace Go.AM
open Go.RowKit
def drawOk2 (m : Nat) (l : List Oper) : Bool :=
  (l.zipIdx.all fun (o, i) => (Nat.blt i m || match o.guard with | none => true | some _ => false) && o.after.toList.all (fun e => !Region.binds .any e || Nat.blt e.on i) &&
    (match o.dst with | some d => (l.zipIdx.all fun (o', i') => Nat.beq i i' || (match o'.dst with | some d' => !Nat.beq d d' | none => true)) | none => true)) &&
  (List.range l.length).all fun i => Nat.blt i m || (match Nat.beq i m with | true => (List.range i).all (fun j => edgeB l i j) | false => edgeB l i (i - 1))
structure DrawF2 (m : Nat) (l : List Oper) : Prop where
  guard : ∀ (i : Nat) (o : Oper), m ≤ i → l[i]? = some o → o.guard = none
  back : ∀ (i : Nat) (o : Oper), l[i]? = some o → ∀ e ∈ o.after, Region.binds .any e = true → e.on < i
  once : ∀ (i j : Nat) (d : Nat), dstAt l i = some d → dstAt l j = some d → i = j
  tail : m < l.length → ∀ j, j < m → edgeB l m j = true
  tail2 : ∀ i, m < i → i < l.length → edgeB l i (i - 1) = true
theorem drawOk2_spec {m : Nat} {l : List Oper} (h : drawOk2 m l = true) : DrawF2 m l := by
  unfold drawOk2 at h
  simp only [Bool.and_eq_true] at h
  obtain ⟨h1, h2⟩ := h
  rw [List.all_eq_true] at h1 h2
  have key : ∀ (i : Nat) (o : Oper), l[i]? = some o → (o, i) ∈ l.zipIdx := by
    intro i o ho
    rw [List.mem_zipIdx_iff_getElem?]; exact ho
  refine ⟨fun i o hmi ho => ?_, fun i o ho e he hb => ?_, fun i j d hi hj => ?_, fun hm j hj => ?_, fun i hi hil => ?_⟩
  · have := h1 _ (key i o ho)
    simp only [Bool.and_eq_true, Bool.or_eq_true] at this
    obtain ⟨⟨g | g, _⟩, _⟩ := this
    · simp [Nat.blt] at g; omega
    split at g
    · assumption
    · cases g
  · have := h1 _ (key i o ho)
    simp only [Bool.and_eq_true] at this
    obtain ⟨⟨_, g⟩, _⟩ := this
    rw [List.all_eq_true] at g
    have := g e (by simpa using he)
    rw [hb] at this
    simp [Nat.blt] at this
    omega
  · unfold dstAt at hi hj
    obtain ⟨o, ho, hd⟩ := Option.bind_eq_some_iff.1 hi
    obtain ⟨o', ho', hd'⟩ := Option.bind_eq_some_iff.1 hj
    have := h1 _ (key i o ho)
    simp only [Bool.and_eq_true] at this
    obtain ⟨_, g⟩ := this
    rw [hd] at g
    simp only at g
    rw [List.all_eq_true] at g
    have := g _ (key j o' ho')
    rw [hd'] at this
    simp only [Bool.or_eq_true] at this
    rcases this with this | this
    · exact Nat.eq_of_beq_eq_true this
    · simp at this
  · have := h2 m (by simpa using hm)
    simp only [Bool.or_eq_true, Nat.beq_refl] at this
    rcases this with this | this
    · simp [Nat.blt] at this
      omega
    · rw [List.all_eq_true] at this
      exact this j (by simpa using hj)
  · have := h2 i (by simpa using hil)
    have hne : Nat.beq i m = false := by
      cases e : Nat.beq i m with
      | false => rfl
      | true => have := Nat.eq_of_beq_eq_true e; omega
    simp only [Bool.or_eq_true, hne] at this
    rcases this with this | this
    · simp [Nat.blt] at this
      omega
    · exact this
section
variable {P : Program} {ρ : Option Nat} {Q : Exit → AS → Prop} {σ : AS} {ops : Array Oper} {l : List Oper}
theorem any_of_seq2 (g : G) {m : Nat} (hl : ops.toList = l) (hd : DrawF2 m l) : ∀ (f k : Nat) (listed : Array Bool) (a : Act) (w : World), m ≤ k → k + f = ops.size → listed.size = ops.size → (∀ j, listed.getD j false = decide (j < k)) →
    wpOpsIn (WF ρ) 0 P ops (CQ g Q) (List.range' k f) a w → wpAnyIn (WF ρ) 0 P .any ops (CQ g Q) f listed a w := by
  have hsize : ops.size = l.length := by rw [← hl]; simp
  have hget : ∀ i, ops[i]? = l[i]? := fun i => by rw [← hl, Array.getElem?_toList]
  have hready : ∀ k listed, m ≤ k → listed.size = ops.size → (∀ j, listed.getD j false = decide (j < k)) → ∀ i ∈ Region.ready .any ops listed, i = k := by
    intro k listed hmk hsz hlist i hi
    obtain ⟨h1, o, ho, h2⟩ := mem_ready.1 hi
    have hilt : i < ops.size := (Array.getElem?_eq_some_iff.1 ho).1
    have hik : ¬ i < k := by
      intro h
      have h3 := hlist i
      rw [decide_eq_true h] at h3
      rw [Array.getD_eq_getD_getElem?, Array.getElem?_eq_getElem (by omega)] at h1 h3
      simp at h1 h3
      rw [h1] at h3; cases h3
    rcases Nat.lt_or_ge k i with hgt | hle
    · obtain ⟨o', ho', e, he, hb, hon⟩ := edgeB_spec (hd.tail2 i (by omega) (by omega))
      rw [hget] at ho
      rw [ho] at ho'
      injection ho' with ho'
      subst ho'
      have := h2 e he hb
      rw [hon, hlist (i - 1)] at this
      simp at this
      omega
    · omega
  intro f
  induction f with
  | zero =>
    intro k listed a w hmk hkf hsz hlist h
    refine ⟨?_, h⟩
    apply List.eq_nil_iff_forall_not_mem.2
    intro i hi
    have := hready k listed hmk hsz hlist i hi
    obtain ⟨h1, o, ho, h2⟩ := mem_ready.1 hi
    have hilt : i < ops.size := (Array.getElem?_eq_some_iff.1 ho).1
    omega
  | succ f ih =>
    intro k listed a w hmk hkf hsz hlist h
    have hk : k < ops.size := by omega
    have hkr : k ∈ Region.ready .any ops listed := by
      refine mem_ready.2 ⟨?_, _, Array.getElem?_eq_getElem hk, fun e he hb => ?_⟩
      · have := hlist k
        rw [Array.getD_eq_getD_getElem?, Array.getElem?_eq_getElem (by omega)] at this ⊢
        simpa using this
      · have := hd.back k _ (by rw [← hget]; exact Array.getElem?_eq_getElem hk) e he hb
        rw [hlist]; simpa using this
    refine ⟨fun h0 => (by rw [h0] at hkr; cases hkr), fun i hi => ?_⟩
    obtain rfl := hready k listed hmk hsz hlist i hi
    rw [List.range'_succ, wpOpsIn_cons] at h
    refine wpOpIn_mono (fun a' w' h' => ?_) h
    exact ih (i + 1) _ a' w' (by omega) (by omega) (by simpa using hsz) (fun j => by
      rw [listed_set (by omega), hlist]
      split
      · rename_i e; subst e; simp
      · rename_i e
        by_cases c : j < i
        · simp [c]; omega
        · simp [c]; omega) h'
theorem AW_region_draw1 {id : Nat} (m : Nat) (vals : List AV) (tm' : List (Nat × AV)) (K : Heap → Prop) (R : AV → Heap → Prop) {ox : Oper} {dx : Nat} {tmx : List (Nat × AV)} (hl : ops.toList = l) (hm : P.follows .mixedOrders = true) (hok : drawOk2 (m + 1) l = true) (hml : m + 1 ≤ l.length)
    (hx : l[m]? = some ox) (hdx : ox.dst = some dx) (hdxn : dx < σ.n) (hgx : ox.guard = none) (hK0 : K σ.h) (hneedx : ∀ p ∈ tmx, NeedB l σ.tm vals m p) (hMx : MO P ρ ox { σ with tm := tmx } R) (hRK : ∀ v h', R v h' → K h') (hvl : vals.length = m)
    (hdst : ∀ i o d, l[i]? = some o → i < m → o.dst = some d → d < σ.n)
    (steps : ∀ hh, K hh → ∀ i o, l[i]? = some o → i < m → ∃ tm v, vals[i]? = some v ∧ (∀ p ∈ tm, NeedB l σ.tm vals i p) ∧ StepB P ρ l o { σ with tm := tm, h := hh } v)
    (hknow : ∀ p ∈ tm', KnowB l σ.tm m vals p) (k : ∀ v h', R v h' → AL P ρ ops (l.drop (m + 1)) Q { σ with tm := (dx, v) :: tm', h := h' }) : AW P ρ (.region id ops true) Q σ := by
  intro g I a w hs0
  have hd := drawOk2_spec hok
  have hsize : ops.size = l.length := by rw [← hl]; simp
  have hget : ∀ i, ops[i]? = l[i]? := fun i => by rw [← hl, Array.getElem?_toList]
  have hdm : dstAt l m = some dx := by simp [dstAt, hx, hdx]
  refine wpIn_region_any hm ?_
  have key : ∀ (f : Nat) (listed : Array Bool) (I : Imm) (a : Act) (w : World) (hh : Heap), listed.size = ops.size → (listed.toList.filter (fun b => !b)).length = f →
      SR g I { σ with tm := [], h := hh } a w → K hh → ((hh = σ.h ∧ listed.getD m false = false) ∨ (∃ v, R v hh ∧ listed.getD m false = true ∧ VR I v (a.tmps.getD dx undef))) →
      (∀ k v, notDst l k = true → look σ.tm k = some v → VR I v (a.tmps.getD k undef)) →
      (∀ j d v, listed.getD j false = true → j < m → dstAt l j = some d → vals[j]? = some v → VR I v (a.tmps.getD d undef)) → (∀ j, m < j → listed.getD j false = false) →
      wpAnyIn (WF ρ) 0 P .any ops (CQ g Q) f listed a w := by
    intro f
    induction f with
    | zero =>
      intro listed I a w hh hsz hf hs hK hX hold hnew htail
      have hall : ∀ j, j < listed.size → listed.getD j false = true := by
        intro j hj
        have h0 := List.eq_nil_of_length_eq_zero hf
        have := List.filter_eq_nil_iff.1 h0 listed[j] (by simp)
        simp only [Bool.not_eq_true', Bool.not_eq_false] at this
        rw [Array.getD_eq_getD_getElem?, Array.getElem?_eq_getElem hj]
        simpa using this
      have hmn : m + 1 = ops.size := by
        rcases Nat.lt_or_ge (m + 1) ops.size with h | h
        · have := hall (m + 1) (by omega)
          rw [htail (m + 1) (by omega)] at this; cases this
        · omega
      rcases hX with ⟨-, h0⟩ | ⟨v, hR, -, hv⟩
      · rw [hall m (by omega)] at h0; cases h0
      have hslot : ∀ k u, look ((dx, v) :: tm') k = some u → VR I u (a.tmps.getD k undef) := by
        intro k u e
        rw [look_cons] at e
        split at e
        · rename_i hk; injection e with e; subst e; subst hk; exact hv
        · rcases hknow (k, u) (look_mem e) with ⟨j, h1, h2, h3⟩ | ⟨h1, h2⟩
          · exact hnew j k u (hall j (by omega)) h1 h2 h3
          · exact hold k u h1 h2
      have hmid : SR g I { σ with tm := (dx, v) :: tm', h := hh } a w := ⟨hs.le, hs.below, hs.base, hs.wr, hs.size, hslot, ⟨hs.marks.defs, hs.marks.nodup, hs.marks.here, hs.marks.keep, hs.marks.apart⟩⟩
      have hq := k v hh hR g I a w (List.range' (m + 1) 0) (by
        have : l.drop (m + 1) = [] := List.drop_of_length_le (by omega)
        rw [this]; rfl) hmid
      exact any_of_seq2 g hl hd 0 (m + 1) listed a w (Nat.le_refl _) (by omega) hsz (fun j => by
        rcases Nat.lt_or_ge j listed.size with h | h
        · rw [hall j h]; simp; omega
        · rw [Array.getD_eq_getD_getElem?, Array.getElem?_eq_none h]; simp; omega) hq
    | succ f ih =>
      intro listed I a w hh hsz hf hs hK hX hold hnew htail
      have hex : ∃ i, i < ops.size ∧ listed.getD i false = false := by
        have h0 : listed.toList.filter (fun b => !b) ≠ [] := by intro h; rw [h] at hf; simp at hf
        obtain ⟨b, hb⟩ := List.exists_mem_of_ne_nil _ h0
        rw [List.mem_filter] at hb
        obtain ⟨i, hi, e⟩ := List.mem_iff_getElem.1 hb.1
        refine ⟨i, by rw [← hsz]; simpa using hi, ?_⟩
        rw [Array.getD_eq_getD_getElem?, ← Array.getElem?_toList, List.getElem?_eq_getElem hi, e]
        simpa using hb.2
      obtain ⟨i0, ⟨hi0, hi0f⟩, hmin⟩ := exists_least hex
      have hr0 : i0 ∈ Region.ready .any ops listed := by
        refine mem_ready.2 ⟨?_, _, Array.getElem?_eq_getElem hi0, fun e he hb => ?_⟩
        · rw [Array.getD_eq_getD_getElem?, Array.getElem?_eq_getElem (by omega)] at hi0f ⊢
          simpa using hi0f
        · have hlt := hd.back i0 _ (by rw [← hget]; exact Array.getElem?_eq_getElem hi0) e he hb
          cases hc : listed.getD e.on false with
          | true => rfl
          | false => have := hmin e.on ⟨by omega, hc⟩; omega
      refine ⟨fun h => (by rw [h] at hr0; cases hr0), fun i hi => ?_⟩
      obtain ⟨h1, o, ho, h2⟩ := mem_ready.1 hi
      have hilt : i < ops.size := (Array.getElem?_eq_some_iff.1 ho).1
      have hif : listed.getD i false = false := by
        rw [Array.getD_eq_getD_getElem?, Array.getElem?_eq_getElem (by omega)] at h1 ⊢
        simpa using h1
      rw [hget] at ho
      have hdi : dstAt l i = o.dst := by simp [dstAt, ho]
      -- one fewer is left
      have hone : ((listed.setIfInBounds i true).toList.filter (fun b => !b)).length = f := by
        have hset : ∀ (bs : List Bool) (i : Nat), bs[i]? = some false → ((bs.set i true).filter (fun b => !b)).length + 1 = (bs.filter (fun b => !b)).length := by
          intro bs
          induction bs with
          | nil => intro i h; simp at h
          | cons b bs ih =>
            intro i h
            cases i with
            | zero => simp at h; subst h; simp
            | succ i =>
              have := ih i (by simpa using h)
              cases b <;> simp at this ⊢ <;> omega
        have hi' : listed.toList[i]? = some false := by
          rw [Array.getElem?_toList]
          rw [Array.getD_eq_getD_getElem?, Array.getElem?_eq_getElem (by omega)] at hif
          rw [Array.getElem?_eq_getElem (by omega)]
          simpa using hif
        have := hset listed.toList i hi'
        rw [Array.toList_setIfInBounds]
        omega
      -- what an operation that waits finds
      have hneeds : ∀ tm, (∀ p ∈ tm, NeedB l σ.tm vals i p) → i ≤ m → ∀ k v, look tm k = some v → VR I v (a.tmps.getD k undef) := by
        intro tm hneed him k u e
        rcases hneed (k, u) (look_mem e) with ⟨j, e1, e2, e3⟩ | ⟨e1, e2⟩
        · obtain ⟨o', ho', ed, hed, hb, hon⟩ := edgeB_spec e1
          rw [ho] at ho'
          injection ho' with ho'
          subst ho'
          have hlj := h2 ed hed hb
          rw [hon] at hlj
          have hji := hd.back i o ho ed hed hb
          exact hnew j k u hlj (by omega) e2 e3
        · exact hold k u e1 e2
      have hold' : ∀ I' u, I.le I' → ∀ k v, notDst l k = true → look σ.tm k = some v → VR I' v ((a.put o.dst u).tmps.getD k undef) := by
        intro I' u hle k x hk hx
        have hne := notDst_spec hk ho
        have := (hold k x hk hx).mono hle
        cases hdst' : o.dst with
        | none => exact this
        | some d =>
          have hdk : d ≠ k := fun e => hne (by rw [hdst', e])
          simpa [Act.put, Array.getD_eq_getD_getElem?, Array.getElem?_setIfInBounds, hdk] using this
      have hoth : ∀ I' u j d x, I.le I' → i ≠ j → dstAt l j = some d → VR I x (a.tmps.getD d undef) → VR I' x ((a.put o.dst u).tmps.getD d undef) := by
        intro I' u j d x hle hij hdj hx
        have := hx.mono hle
        cases hdst' : o.dst with
        | none => exact this
        | some d' =>
          have hdk : d' ≠ d := fun e => hij (hd.once i j d (by rw [hdi, hdst', e]) hdj)
          simpa [Act.put, Array.getD_eq_getD_getElem?, Array.getElem?_setIfInBounds, hdk] using this
      have hclear : ∀ I' u w' tm h', SR g I' { σ with tm := tm, h := h' } a w' → SR g I' { σ with tm := [], h := h' } (a.put o.dst u) w' := by
        intro I' u w' tm h' hs'
        cases hdst' : o.dst with
        | none => exact ⟨hs'.le, hs'.below, hs'.base, hs'.wr, hs'.size, fun k v e => (by cases e), ⟨hs'.marks.defs, hs'.marks.nodup, hs'.marks.here, hs'.marks.keep, hs'.marks.apart⟩⟩
        | some d =>
          refine ⟨hs'.le, hs'.below, hs'.base, hs'.wr, ?_, fun k v e => (by cases e), ⟨hs'.marks.defs, hs'.marks.nodup, hs'.marks.here, hs'.marks.keep, hs'.marks.apart⟩⟩
          have := hs'.size
          simpa [Act.put] using this
      by_cases him : i < m
      · obtain ⟨tm, v, hv, hneed, hpo⟩ := steps hh hK i o ho him
        have hslot := hneeds tm hneed (by omega)
        have hsi : SR g I { σ with tm := tm, h := hh } a w := ⟨hs.le, hs.below, hs.base, hs.wr, hs.size, hslot, ⟨hs.marks.defs, hs.marks.nodup, hs.marks.here, hs.marks.keep, hs.marks.apart⟩⟩
        suffices hcont : ∀ I' u w', I.le I' → VR I' v u → SR g I' { σ with tm := tm, h := hh } a w' → wpAnyIn (WF ρ) 0 P .any ops (CQ g Q) f (listed.setIfInBounds i true) (a.put o.dst u) w' by
          have hy : ∀ yes, GuardB l tm o yes → Region.wanted o (yielded ops a.tmps) = yes := by
            intro yes hG
            unfold GuardB at hG
            unfold Region.wanted
            split at hG
            · rename_i e; rw [e, hG]
            · rename_i j want e
              obtain ⟨t, hjt, hlt⟩ := hG
              obtain ⟨o', ho', ht⟩ := Option.bind_eq_some_iff.1 hjt
              rw [e]
              rcases hlt with ⟨b, hlt, hbw⟩ | ⟨hlt, rfl⟩
              · have hv := hslot t _ hlt
                have hlt' : t < a.tmps.size := by
                  rcases Nat.lt_or_ge t a.tmps.size with h | h
                  · exact h
                  · rw [Array.getD_eq_getD_getElem?, Array.getElem?_eq_none h] at hv
                    cases hv
                have hyl : yielded ops a.tmps j = some b := by
                  simp only [yielded, hget, ho', Option.bind_some, ht]
                  rw [Array.getD_eq_getD_getElem?, Array.getElem?_eq_getElem hlt'] at hv
                  rw [Array.getElem?_eq_getElem hlt']
                  simp only [Option.getD_some] at hv
                  generalize a.tmps[t] = u at hv
                  cases hv
                  rfl
                simp only [hyl]
                simpa using hbw
              · have hv := hslot t _ hlt
                have hu : a.tmps.getD t undef = .tuple #[] := by
                  generalize a.tmps.getD t undef = u at hv
                  cases hv with
                  | tup _ us hl _ => exact congrArg Value.tuple (Array.eq_empty_of_size_eq_zero hl)
                have hyl : yielded ops a.tmps j = none := by
                  simp only [yielded, hget, ho', Option.bind_some, ht]
                  rw [Array.getD_eq_getD_getElem?] at hu
                  cases hq : a.tmps[t]? with
                  | none => rfl
                  | some u => rw [hq] at hu; simp at hu; subst hu; rfl
                simp only [hyl]
                cases want <;> rfl
          simp only [wpOpIn, hget, ho]
          rcases hpo with ⟨hG, hpo⟩ | ⟨hG, rfl⟩
          · rw [if_pos (hy true hG)]
            refine wpIn_oper_mono (hpo g I a w hsi) ?_ (fun _ _ _ h => h.elim)
            rintro a' w' ⟨I', u, hle, rfl, hvu, hs'⟩
            exact hcont I' u w' hle hvu hs'
          · rw [if_neg (by rw [hy false hG]; simp)]
            exact ⟨fun _ _ => trivial, hcont I undef w (.refl _) (.tup [] #[] rfl (fun i a h => by simp at h)) hsi⟩
        intro I' u w' hle hvu hs'
        refine ih (listed.setIfInBounds i true) I' (a.put o.dst u) w' hh (by simpa using hsz) hone (hclear I' u w' tm hh hs') hK ?_ (hold' I' u hle) ?_ ?_
        · rw [listed_set (by omega), if_neg (by omega)]
          rcases hX with h | ⟨vx, hR, hl1, hvx⟩
          · exact .inl h
          · exact .inr ⟨vx, hR, hl1, hoth I' u m dx vx hle (by omega) hdm hvx⟩
        · intro j d x hj hjm hdj hxj
          rw [listed_set (by omega)] at hj
          by_cases hij : i = j
          · subst hij
            rw [hv] at hxj
            injection hxj with hxj
            subst hxj
            rw [hdi] at hdj
            have hdn := hdst i o d ho him hdj
            have hsz' : d < a.tmps.size := by rw [hs.size]; exact hdn
            simpa [hdj, Act.put, Array.getD_eq_getD_getElem?, Array.getElem?_setIfInBounds, hsz'] using hvu
          · rw [if_neg hij] at hj
            exact hoth I' u j d x hle hij hdj (hnew j d x hj hjm hdj hxj)
        · intro j hj
          rw [listed_set (by omega), if_neg (by omega)]
          exact htail j hj
      · by_cases hieq : i = m
        · -- the one that turns the heap
          subst hieq
          rw [hx] at ho
          injection ho with ho
          subst ho
          rcases hX with ⟨rfl, -⟩ | ⟨vx, -, hl1, -⟩
          · have hslot := hneeds tmx hneedx (Nat.le_refl _)
            have hsi : SR g I { σ with tm := tmx } a w := ⟨hs.le, hs.below, hs.base, hs.wr, hs.size, hslot, ⟨hs.marks.defs, hs.marks.nodup, hs.marks.here, hs.marks.keep, hs.marks.apart⟩⟩
            simp only [wpOpIn, hget, hx]
            rw [if_pos (by simp [Region.wanted, hgx])]
            refine wpIn_oper_mono (hMx g I a w hsi) ?_ (fun _ _ _ h => h.elim)
            rintro a' w' ⟨I', u, v, h', hle, rfl, hvu, hs', hR⟩
            refine ih (listed.setIfInBounds i true) I' (a.put ox.dst u) w' h' (by simpa using hsz) hone (hclear I' u w' tmx h' hs') (hRK v h' hR) (.inr ⟨v, hR, ?_, ?_⟩) (hold' I' u hle) ?_ ?_
            · rw [listed_set (by omega), if_pos rfl]
            · have hsz' : dx < a.tmps.size := by rw [hs.size]; exact hdxn
              simpa [hdx, Act.put, Array.getD_eq_getD_getElem?, Array.getElem?_setIfInBounds, hsz'] using hvu
            · intro j d x hj hjm hdj hxj
              rw [listed_set (by omega), if_neg (by omega)] at hj
              exact hoth I' u j d x hle (by omega) hdj (hnew j d x hj hjm hdj hxj)
            · intro j hj
              rw [listed_set (by omega), if_neg (by omega)]
              exact htail j hj
          · rw [hl1] at hif; cases hif
        · have him' : i = m + 1 := by
            rcases Nat.lt_or_ge (m + 1) i with h | h
            · obtain ⟨o', ho', e, he, hb, hon⟩ := edgeB_spec (hd.tail2 i h (by omega))
              rw [ho] at ho'
              injection ho' with ho'
              subst ho'
              have := h2 e he hb
              rw [hon, htail (i - 1) (by omega)] at this
              cases this
            · omega
          subst him'
          have hbefore : ∀ j, j < m + 1 → listed.getD j false = true := by
            intro j hj
            obtain ⟨o', ho', e, he, hb, hon⟩ := edgeB_spec (hd.tail (by omega) j hj)
            rw [ho] at ho'
            injection ho' with ho'
            subst ho'
            have := h2 e he hb
            rwa [hon] at this
          have hlist : ∀ j, listed.getD j false = decide (j < m + 1) := by
            intro j
            by_cases c : j < m + 1
            · rw [hbefore j c]; simp [c]
            · rw [htail j (by omega)]; simp [c]
          rcases hX with ⟨-, h0⟩ | ⟨v, hR, -, hv⟩
          · rw [hbefore m (by omega)] at h0; cases h0
          have hslot : ∀ k u, look ((dx, v) :: tm') k = some u → VR I u (a.tmps.getD k undef) := by
            intro k u e
            rw [look_cons] at e
            split at e
            · rename_i hk; injection e with e; subst e; subst hk; exact hv
            · rcases hknow (k, u) (look_mem e) with ⟨j, e1, e2, e3⟩ | ⟨e1, e2⟩
              · exact hnew j k u (hbefore j (by omega)) e1 e2 e3
              · exact hold k u e1 e2
          have hmid : SR g I { σ with tm := (dx, v) :: tm', h := hh } a w := ⟨hs.le, hs.below, hs.base, hs.wr, hs.size, hslot, ⟨hs.marks.defs, hs.marks.nodup, hs.marks.here, hs.marks.keep, hs.marks.apart⟩⟩
          have hcount : f + 1 = ops.size - (m + 1) := by
            have : ∀ (bs : List Bool) (i : Nat), i ≤ bs.length → (∀ j, bs[j]?.getD false = decide (j < i)) → (bs.filter (fun b => !b)).length = bs.length - i := by
              intro bs
              induction bs with
              | nil => intro i _ _; simp
              | cons b bs ih =>
                intro i hi h
                cases i with
                | zero =>
                  have h0 := h 0
                  simp at h0
                  subst h0
                  have := ih 0 (by omega) (fun j => by have := h (j + 1); simpa using this)
                  simp at this ⊢
                  omega
                | succ i =>
                  have h0 := h 0
                  simp at h0
                  subst h0
                  have := ih i (by simpa using hi) (fun j => by have := h (j + 1); simpa using this)
                  simp at this ⊢
                  omega
            have h3 := this listed.toList (m + 1) (by simp; omega) (fun j => by rw [Array.getElem?_toList, ← Array.getD_eq_getD_getElem?]; exact hlist j)
            rw [hf] at h3
            simpa [hsz] using h3
          have hq := k v hh hR g I a w (List.range' (m + 1) (ops.size - (m + 1))) (by
            apply List.ext_getElem
            · simp [hsize]
            · intro j h3 h4
              simp at h3 h4
              simp [hget, List.getElem?_eq_getElem (show m + 1 + j < l.length by omega)]) hmid
          have hany := any_of_seq2 g hl hd (f + 1) (m + 1) listed a w (Nat.le_refl _) (by omega) hsz hlist (by rw [hcount]; exact hq)
          exact hany.2 _ hi
  refine key ops.size (Array.replicate ops.size false) I a w.drew σ.h (by simp) (by simp) ?_ hK0 (.inl ⟨rfl, ?_⟩) ?_ ?_ ?_
  · have := hs0.drew
    exact ⟨this.le, this.below, this.base, this.wr, this.size, fun k v e => (by cases e), ⟨this.marks.defs, this.marks.nodup, this.marks.here, this.marks.keep, this.marks.apart⟩⟩
  · simp [Array.getD_eq_getD_getElem?, Array.getElem?_replicate]
    split <;> simp
  · exact fun k v _ h => hs0.slot k v h
  · intro j d v hj
    simp [Array.getD_eq_getD_getElem?, Array.getElem?_replicate] at hj
    split at hj <;> simp at hj
  · intro j _
    simp [Array.getD_eq_getD_getElem?, Array.getElem?_replicate]
    split <;> simp
theorem AW_draw1 {n : Nat} {tm : List (Nat × AV)} {h h0 : Heap} {ms : List Nat} {id : Nat} (m : Nat) (vals : List AV) (tm' : List (Nat × AV)) (K : Heap → Prop) (R : AV → Heap → Prop) {ox : Oper} {dx : Nat} {tmx : List (Nat × AV)} (hl : ops.toList = l) (hm : P.follows .mixedOrders = true) (hok : drawOk2 (m + 1) l = true) (hml : Nat.ble (m + 1) l.length = true)
    (hx : l[m]? = some ox) (hdx : ox.dst = some dx) (hdxn : Nat.blt dx n = true) (hgx : ox.guard = none) (hK0 : K h) (hneedx : NeedsB l tm vals m tmx) (hMx : MO P ρ ox ⟨n, tmx, h, ms, h0⟩ R) (hRK : ∀ v h', R v h' → K h') (hvl : vals.length = m)
    (hdst : ((l.take m).all fun o => match o.dst with | some d => Nat.blt d n | none => true) = true)
    (steps : ∀ hh, K hh → StepsB P ρ l ⟨n, tm, hh, ms, h0⟩ vals 0 (l.take m) vals) (hknow : KnowsB l tm m vals tm') (k : ∀ v h', R v h' → AL P ρ ops (l.drop (m + 1)) Q ⟨n, (dx, v) :: tm', h', ms, h0⟩) : AW P ρ (.region id ops true) Q ⟨n, tm, h, ms, h0⟩ := by
  refine AW_region_draw1 (σ := ⟨n, tm, h, ms, h0⟩) m vals tm' K R hl hm hok (Nat.le_of_ble_eq_true hml) hx hdx (by have h := hdxn; simp [Nat.blt] at h; show dx < n; omega) hgx hK0 hneedx.all hMx hRK hvl ?_ ?_ hknow.all k
  · intro i o d hi him hd
    rw [List.all_eq_true] at hdst
    have := hdst o (by
      rw [List.mem_iff_getElem?]
      exact ⟨i, by rw [List.getElem?_take, if_pos him]; exact hi⟩)
    rw [hd] at this
    simp [Nat.blt] at this
    show d < n
    omega
  · intro hh hK i o hi him
    obtain ⟨t, v, h1, h2, h3⟩ := (steps hh hK).get i o (by rw [List.getElem?_take, if_pos him]; exact hi)
    exact ⟨t, v, h1, by simpa using h2.all, h3⟩
end
end Go.AM
end
section
set_option maxRecDepth 100000
set_option linter.unusedVariables false
set_option linter.unusedSimpArgs false
namespace Go.AM.Tryd
open Go Go.AM Go.AM.D
theorem see_ (l : List Rule) (hl : okRs l) (hbods : bods l ≤ 1048576) : PFn PR (.fn (.func 23) [] []) [.sl .any 13 (l.map eRule)] (.ip (eGraph (seeG l))) := by
 have hl1 := hl.1
 refine PFn_of Go.Proofs.Tryd.func23 rfl (by rfl) Go.Proofs.Tryd.ntmps23 rfl (by simp) fun h => ?_
 refine AW_seq (AW_region rfl ?_)
 refine qa (v := .lit (.pointer none)) ?_
 refine AL_nil (AW_seq (AW_region rfl ?_))
 refine AL_makeMap ks25 true rfl rfl rfl rfl fun bm hbm => ?_
 refine qp (v := .agg [.sl .nil 0 [], .mp bm, .sl .nil 0 []]) (PO_build rfl z62 pl62 rfl rfl) ?_
 refine AL_boxm rfl rfl rfl rfl rfl rfl fun bg hbg0 => ?_
 have hbg : h bg = none := Heap.none_of (Heap.le_upd (.refl h) hbm _) hbg0
 have hgm : bg ≠ bm := fun e => by rw [e, Heap.upd_same] at hbg0; cases hbg0
 have hle1 : h.le ((h.upd bm (some (.map ks25 true []))).upd bg (some (.row [.sl .nil 0 [], .mp bm, .sl .nil 0 []]))) := Heap.le_upd (Heap.le_upd (.refl h) hbm _) hbg _
 have hrow1 : ((h.upd bm (some (.map ks25 true []))).upd bg (some (.row [.sl .nil 0 [], .mp bm, .sl .nil 0 []]))) bg = (some (.row [.sl .nil 0 [], .mp bm, .sl .nil 0 []])) := Heap.upd_same _ _ _
 have hmap1 : ((h.upd bm (some (.map ks25 true []))).upd bg (some (.row [.sl .nil 0 [], .mp bm, .sl .nil 0 []]))) bm = some (.map ks25 true (atL [] 0)) := (Heap.upd_other _ hgm.symm _).trans (Heap.upd_same _ _ _)
 have htok1 : Toks 3 ((h.upd bm (some (.map ks25 true []))).upd bg (some (.row [.sl .nil 0 [], .mp bm, .sl .nil 0 []]))) h [((⟨.nil, 0, []⟩ : Gs Term).own, 0)] := ⟨fun i o m e => by
  rcases i with _ | i
  ·injection e with e; injection e with e1 e2; exact .inl ⟨e1.symm, e2.symm⟩
  ·simp at e, fun i j b m m' e1 e2 => by
  rcases i with _ | i
  ·injection e1 with e1; injection e1 with e1 _; cases e1
  ·simp at e1⟩
 refine qa ?_
 refine AL_keep [(0,_),(2,_),(3,_)] ⟨rfl,rfl,rfl,trivial⟩ ?_
 refine AL_nil (AW_seq (AW_seq (AW_region rfl ?_)))
 refine qm ?_
 refine qp (v := vi (l.length : Int)) (PO_lenM rfl un22 rfl) ?_
 refine qm (v := vi 0) ?_
 refine AL_nil (AW_block ?_)
 refine AW_iter (fun (z_ : Nat × Gs Term × Heap) => match z_ with | (i, q, hp) => [(23, .lit (.int .i64 ((i : Nat) : Int))), (0, .sl .any 13 (l.map eRule)), (2, .lit (.pointer none)), (3, .ptr bg 0), (21, .sl .any 13 (l.map eRule)), (22, .lit (.int .i64 (l.length : Int)))]) (fun (z_ : Nat × Gs Term × Heap) => match z_ with | (i, q, hp) => hp) (fun (z_ : Nat × Gs Term × Heap) => match z_ with | (i, q, hp) => i ≤ l.length ∧ predF l [] = predF (l.drop i) q.l ∧ q.l.length ≤ i ∧ (q.S = 3 ∨ q.l = []) ∧ h.le hp ∧ hp bg = (some (.row [q.cell eTerm, .mp bm, .sl .nil 0 []])) ∧ hp bm = some (.map ks25 true (atL q.l 0)) ∧ Toks 3 hp h [(q.own, q.l.length)]) (fun (z_ : Nat × Gs Term × Heap) => match z_ with | (i, q, hp) => l.length - i) ((0, ⟨.nil, 0, []⟩, ((h.upd bm (some (.map ks25 true []))).upd bg (some (.row [.sl .nil 0 [], .mp bm, .sl .nil 0 []]))))) ⟨rfl, rfl, rfl, rfl, rfl, rfl, trivial⟩ rfl (⟨by omega, rfl, by simp, .inr rfl, hle1, hrow1, hmap1, htok1⟩) ?_
 rintro ⟨i, q, hp⟩ ⟨hIi, hS, hql, hqS, hle, hrow, hmap, htok⟩
 refine AW_seq (AW_region rfl ?_)
 refine qp (v := vb (decide ((((i : Nat) : Int) : Int) < (l.length : Int)))) pI ?_
 refine AL_nil (AW_seq ?_)
 refine AW_cond _ rfl (fun hc3 => ?_) (fun hc3 => ?_)
 ·replace hc3 := of_decide_eq_true hc3
  obtain ⟨r, hrr, hdr, hmr⟩ := drop_at (l := l) (i := i) (by omega)
  rw [hdr, predF] at hS
  refine AW_skip (AW_seq (AW_block (AW_seq (AW_region rfl ?_))))
  refine qp (v := .ip (eRule r)) (PO_indexAddr rfl un22 ty46 rfl rfl (by first | decide | omega) (mget hrr)) ?_
  refine qp (v := .agg (eRule r)) (PO_load rfl ty46 rfl rfl) ?_
  refine AL_als rfl rfl rfl rfl rfl rfl al46 rfl rfl rfl rfl rfl ?_
  refine AL_keep [(23,_),(0,_),(2,_),(3,_),(21,_),(22,_),(5,_)] ⟨rfl,rfl,rfl,rfl,rfl,rfl,rfl,trivial⟩ ?_
  refine AL_nil (AW_seq (AW_region rfl ?_))
  refine qp (v := .ip (List.drop 0 (eRule r))) (PO_fieldAddr rfl f46_0 rfl) ?_
  refine qp (v := .ip (List.drop (1 * 4) (List.drop 0 (eRule r)))) (PO_indexAddr_arr (i := 1) rfl un43 ty41 rfl rfl (by decide) (by decide)) ?_
  refine qp (v := .agg (eSlot r.head.b)) (PO_load rfl ty41 rfl rfl) ?_
  refine AL_als rfl rfl rfl rfl rfl rfl al41 rfl rfl rfl rfl rfl ?_
  refine AL_keep [(23,_),(0,_),(2,_),(3,_),(21,_),(22,_),(5,_),(6,_)] ⟨rfl,rfl,rfl,rfl,rfl,rfl,rfl,rfl,trivial⟩ ?_
  refine AL_nil (AW_seq ?_)
  refine AW_draw 12 [.ptr bg 0, .ptr bg 0, .ptr bg (0 + 1), .mp bm, .ip (List.drop 1 (eSlot r.head.b)), .agg (eTerm r.head.b.term), .tup [.lit (.int .i64 (lookI r.head.b.term q.l)), .lit (.bool (lookB r.head.b.term q.l))], .tup [.lit (.int .i64 (lookI r.head.b.term q.l)), .lit (.bool (lookB r.head.b.term q.l))], .lit (.int .i64 (lookI r.head.b.term q.l)), .lit (.bool (lookB r.head.b.term q.l)), .lit (.int .i64 (lookI r.head.b.term q.l)), .lit (.bool (lookB r.head.b.term q.l))] [(23, .lit (.int .i64 ((i : Nat) : Int))), (0, .sl .any 13 (l.map eRule)), (2, .lit (.pointer none)), (3, .ptr bg 0), (21, .sl .any 13 (l.map eRule)), (22, .lit (.int .i64 (l.length : Int))), (5, .ip (eRule r)), (6, .ip (eSlot r.head.b)), (8, .lit (.bool (lookB r.head.b.term q.l)))] rfl hmixed (by kernel_rfl) rfl (by kernel_rfl) ⟨
   ⟨[(3, .ptr bg 0)], ⟨.inr ⟨by kernel_rfl, rfl⟩, trivial⟩, .inl ⟨rfl, PO_move rfl rfl⟩⟩,
   ⟨[(31, .ptr bg 0)], ⟨.inl ⟨0, by kernel_rfl, rfl, rfl⟩, trivial⟩, .inl ⟨rfl, PO_nilCheck_ptr rfl rfl⟩⟩,
   ⟨[(32, .ptr bg 0)], ⟨.inl ⟨1, by kernel_rfl, rfl, rfl⟩, trivial⟩, .inl ⟨rfl, PO_fieldAddr_row rfl f62_1 rfl⟩⟩,
   ⟨[(33, .ptr bg (0 + 1))], ⟨.inl ⟨2, by kernel_rfl, rfl, rfl⟩, trivial⟩, .inl ⟨rfl, PO_load_row rfl ty59 rfl hrow rfl⟩⟩,
   ⟨[(6, .ip (eSlot r.head.b))], ⟨.inr ⟨by kernel_rfl, rfl⟩, trivial⟩, .inl ⟨rfl, PO_fieldAddr rfl f41_1 rfl⟩⟩,
   ⟨[(35, .ip (List.drop 1 (eSlot r.head.b)))], ⟨.inl ⟨4, by kernel_rfl, rfl, rfl⟩, trivial⟩, .inl ⟨rfl, PO_load rfl ty25 rfl rfl⟩⟩,
   ⟨[(34, .mp bm), (36, .agg (eTerm r.head.b.term))], ⟨.inl ⟨3, by kernel_rfl, rfl, rfl⟩, .inl ⟨5, by kernel_rfl, rfl, rfl⟩, trivial⟩, .inl ⟨rfl, PO_lookT rfl rfl hmap rfl⟩⟩,
   ⟨[(37, .tup [.lit (.int .i64 (lookI r.head.b.term q.l)), .lit (.bool (lookB r.head.b.term q.l))])], ⟨.inl ⟨6, by kernel_rfl, rfl, rfl⟩, trivial⟩, .inl ⟨rfl, PO_move rfl rfl⟩⟩,
   ⟨[(30, .tup [.lit (.int .i64 (lookI r.head.b.term q.l)), .lit (.bool (lookB r.head.b.term q.l))])], ⟨.inl ⟨7, by kernel_rfl, rfl, rfl⟩, trivial⟩, .inl ⟨rfl, PO_extract rfl rfl rfl⟩⟩,
   ⟨[(30, .tup [.lit (.int .i64 (lookI r.head.b.term q.l)), .lit (.bool (lookB r.head.b.term q.l))])], ⟨.inl ⟨7, by kernel_rfl, rfl, rfl⟩, trivial⟩, .inl ⟨rfl, PO_extract rfl rfl rfl⟩⟩,
   ⟨[(38, .lit (.int .i64 (lookI r.head.b.term q.l)))], ⟨.inl ⟨8, by kernel_rfl, rfl, rfl⟩, trivial⟩, .inl ⟨rfl, PO_assign rfl rfl⟩⟩,
   ⟨[(39, .lit (.bool (lookB r.head.b.term q.l)))], ⟨.inl ⟨9, by kernel_rfl, rfl, rfl⟩, trivial⟩, .inl ⟨rfl, PO_assign rfl rfl⟩⟩,
   trivial⟩ ⟨.inr ⟨by kernel_rfl, rfl⟩, .inr ⟨by kernel_rfl, rfl⟩, .inr ⟨by kernel_rfl, rfl⟩, .inr ⟨by kernel_rfl, rfl⟩, .inr ⟨by kernel_rfl, rfl⟩, .inr ⟨by kernel_rfl, rfl⟩, .inr ⟨by kernel_rfl, rfl⟩, .inr ⟨by kernel_rfl, rfl⟩, .inl ⟨11, by decide, rfl, rfl⟩, trivial⟩ ?_
  refine AL_nil (AW_seq (AW_region rfl ?_))
  refine qp (v := .ip (List.drop 0 (eSlot r.head.b))) (PO_fieldAddr rfl f41_0 rfl) ?_
  refine qp (v := vs r.head.b.var) (PO_load rfl ty9 rfl rfl) ?_
  refine qp (v := vb (decide (r.head.b.var = ⟨#[]⟩))) (PO_str rfl rfl rfl rfl) ?_
  refine qm ?_
  refine AL_jk 3 46 (vb ((decide (r.head.b.var = ⟨#[]⟩)) && (!(lookB r.head.b.term q.l)))) [(23,_),(0,_),(2,_),(3,_),(21,_),(22,_),(5,_),(6,_),(8,_),(40,_),(41,_),(42,_),(43,_)] ⟨rfl,rfl,rfl,rfl,rfl,rfl,rfl,rfl,rfl,rfl,rfl,rfl,rfl,trivial⟩ ?_ ?_
  ·refine AL_split 43 _ rfl (fun hg43 => ?_) (fun hg43 => ?_)
   ·refine gm ?_
    refine qg (v := vb (!(lookB r.head.b.term q.l))) (PO_not (b := (lookB r.head.b.term q.l)) rfl rfl) ?_
    refine qk ?_
    refine AL_say (k := 46) (vb ((decide (r.head.b.var = ⟨#[]⟩)) && (!(lookB r.head.b.term q.l)))) rfl (by rw [hg43]; rfl) ?_
    refine AL_say (k := 43) (vb (decide (r.head.b.var = ⟨#[]⟩))) rfl (by rw [hg43]) ?_
    exact nl ⟨rfl,rfl,rfl,rfl,rfl,rfl,rfl,rfl,rfl,rfl,rfl,rfl,rfl,rfl,trivial⟩
   ·refine qz ?_
    refine qz ?_
    refine qk ?_
    refine AL_say (k := 46) (vb ((decide (r.head.b.var = ⟨#[]⟩)) && (!(lookB r.head.b.term q.l)))) rfl (by rw [hg43]; rfl) ?_
    refine AL_say (k := 43) (vb (decide (r.head.b.var = ⟨#[]⟩))) rfl (by rw [hg43]) ?_
    exact nl ⟨rfl,rfl,rfl,rfl,rfl,rfl,rfl,rfl,rfl,rfl,rfl,rfl,rfl,rfl,trivial⟩
  ·refine AL_keep [(46,_),(23,_),(0,_),(2,_),(3,_),(21,_),(22,_),(5,_),(6,_),(8,_)] ⟨rfl,rfl,rfl,rfl,rfl,rfl,rfl,rfl,rfl,rfl,trivial⟩ ?_
   refine AL_nil ?_
   refine AW_cond _ rfl (fun hc7 => ?_) (fun hc7 => ?_)
   ·simp only [Bool.and_eq_true, decide_eq_true_eq, Bool.not_eq_true', lookB, decide_eq_false_iff_not] at hc7
    have hnew : atF r.head.b.term q.l 0 = -1 := by have := atF_ge r.head.b.term q.l 0; omega
    rw [if_pos (by simp only [hc7.1, decide_true, Bool.true_and, decide_eq_true_eq]; omega)] at hS
    refine AW_seq ?_
    refine AW_draw 11 [.ptr bg 0, .ptr bg 0, .ptr bg (0 + 1), .mp bm, .ip (List.drop 1 (eSlot r.head.b)), .agg (eTerm r.head.b.term), .ptr bg 0, .ptr bg 0, .ptr bg (0 + 0), .sl q.own q.S (q.l.map eTerm), .lit (.int .i64 (q.l.length : Int))] [(23, .lit (.int .i64 ((i : Nat) : Int))), (0, .sl .any 13 (l.map eRule)), (2, .lit (.pointer none)), (3, .ptr bg 0), (21, .sl .any 13 (l.map eRule)), (22, .lit (.int .i64 (l.length : Int))), (5, .ip (eRule r)), (6, .ip (eSlot r.head.b)), (8, .lit (.bool (lookB r.head.b.term q.l))), (47, .ptr bg 0), (48, .ptr bg 0), (49, .ptr bg (0 + 1)), (50, .mp bm), (51, .ip (List.drop 1 (eSlot r.head.b))), (52, .agg (eTerm r.head.b.term)), (53, .ptr bg 0), (54, .ptr bg 0), (55, .ptr bg (0 + 0)), (56, .sl q.own q.S (q.l.map eTerm)), (57, .lit (.int .i64 (q.l.length : Int)))] rfl hmixed (by kernel_rfl) rfl (by kernel_rfl) ⟨
     ⟨[(3, .ptr bg 0)], ⟨.inr ⟨by kernel_rfl, rfl⟩, trivial⟩, .inl ⟨rfl, PO_move rfl rfl⟩⟩,
     ⟨[(47, .ptr bg 0)], ⟨.inl ⟨0, by kernel_rfl, rfl, rfl⟩, trivial⟩, .inl ⟨rfl, PO_nilCheck_ptr rfl rfl⟩⟩,
     ⟨[(48, .ptr bg 0)], ⟨.inl ⟨1, by kernel_rfl, rfl, rfl⟩, trivial⟩, .inl ⟨rfl, PO_fieldAddr_row rfl f62_1 rfl⟩⟩,
     ⟨[(49, .ptr bg (0 + 1))], ⟨.inl ⟨2, by kernel_rfl, rfl, rfl⟩, trivial⟩, .inl ⟨rfl, PO_load_row rfl ty59 rfl hrow rfl⟩⟩,
     ⟨[(6, .ip (eSlot r.head.b))], ⟨.inr ⟨by kernel_rfl, rfl⟩, trivial⟩, .inl ⟨rfl, PO_fieldAddr rfl f41_1 rfl⟩⟩,
     ⟨[(51, .ip (List.drop 1 (eSlot r.head.b)))], ⟨.inl ⟨4, by kernel_rfl, rfl, rfl⟩, trivial⟩, .inl ⟨rfl, PO_load rfl ty25 rfl rfl⟩⟩,
     ⟨[(3, .ptr bg 0)], ⟨.inr ⟨by kernel_rfl, rfl⟩, trivial⟩, .inl ⟨rfl, PO_move rfl rfl⟩⟩,
     ⟨[(53, .ptr bg 0)], ⟨.inl ⟨6, by kernel_rfl, rfl, rfl⟩, trivial⟩, .inl ⟨rfl, PO_nilCheck_ptr rfl rfl⟩⟩,
     ⟨[(54, .ptr bg 0)], ⟨.inl ⟨7, by kernel_rfl, rfl, rfl⟩, trivial⟩, .inl ⟨rfl, PO_fieldAddr_row rfl f62_0 rfl⟩⟩,
     ⟨[(55, .ptr bg (0 + 0))], ⟨.inl ⟨8, by kernel_rfl, rfl, rfl⟩, trivial⟩, .inl ⟨rfl, PO_load_row rfl ty37 rfl hrow rfl⟩⟩,
     ⟨[(56, .sl q.own q.S (q.l.map eTerm))], ⟨.inl ⟨9, by kernel_rfl, rfl, rfl⟩, trivial⟩, .inl ⟨rfl, PO_lenM rfl un37 rfl⟩⟩,
     trivial⟩ ⟨.inr ⟨by kernel_rfl, rfl⟩, .inr ⟨by kernel_rfl, rfl⟩, .inr ⟨by kernel_rfl, rfl⟩, .inr ⟨by kernel_rfl, rfl⟩, .inr ⟨by kernel_rfl, rfl⟩, .inr ⟨by kernel_rfl, rfl⟩, .inr ⟨by kernel_rfl, rfl⟩, .inr ⟨by kernel_rfl, rfl⟩, .inr ⟨by kernel_rfl, rfl⟩, .inl ⟨0, by decide, rfl, rfl⟩, .inl ⟨1, by decide, rfl, rfl⟩, .inl ⟨2, by decide, rfl, rfl⟩, .inl ⟨3, by decide, rfl, rfl⟩, .inl ⟨4, by decide, rfl, rfl⟩, .inl ⟨5, by decide, rfl, rfl⟩, .inl ⟨6, by decide, rfl, rfl⟩, .inl ⟨7, by decide, rfl, rfl⟩, .inl ⟨8, by decide, rfl, rfl⟩, .inl ⟨9, by decide, rfl, rfl⟩, .inl ⟨10, by decide, rfl, rfl⟩, trivial⟩ ?_
    refine AL_mapUpdG (b := bm) (es := atL q.l 0) (k := tkey r.head.b.term) (v := .lit (.int .i64 (q.l.length : Int))) rfl rfl (.inl rfl) un59 key25 rfl hmap rfl rfl rfl rfl ?_
    have hsn := atL_snoc r.head.b.term q.l 0 (by omega) hnew
    rw [Int.zero_add] at hsn
    rw [hsn]
    have hrow2 := (Heap.upd_other hp hgm (some (.map ks25 true (atL (q.l ++ [r.head.b.term]) 0)))).trans hrow
    have hmap2 := Heap.upd_same hp bm (some (.map ks25 true (atL (q.l ++ [r.head.b.term]) 0)))
    have hle2 := Heap.le_upd hle hbm (some (.map ks25 true (atL (q.l ++ [r.head.b.term]) 0)))
    have htok2 := htok.upd (b := bm) (x := some (.map ks25 true (atL (q.l ++ [r.head.b.term]) 0))) (fun m S e => by rw [hmap] at e; cases e)
    generalize hp.upd bm (some (.map ks25 true (atL (q.l ++ [r.head.b.term]) 0))) = h2 at hrow2 hmap2 hle2 htok2 ⊢
    refine AL_keep [(23,_),(0,_),(2,_),(3,_),(21,_),(22,_),(5,_),(6,_),(8,_)] ⟨rfl,rfl,rfl,rfl,rfl,rfl,rfl,rfl,rfl,trivial⟩ ?_
    refine AL_nil ?_
    refine AW_draw1 8 [.ptr bg 0, .ptr bg 0, .ptr bg 0, .ptr bg (0 + 0), .sl q.own q.S (q.l.map eTerm), .ip (List.drop 1 (eSlot r.head.b)), .agg (eTerm r.head.b.term), .sl .full 3 ([r.head.b.term].map eTerm)] [(23, .lit (.int .i64 ((i : Nat) : Int))), (0, .sl .any 13 (l.map eRule)), (2, .lit (.pointer none)), (3, .ptr bg 0), (21, .sl .any 13 (l.map eRule)), (22, .lit (.int .i64 (l.length : Int))), (5, .ip (eRule r)), (6, .ip (eSlot r.head.b)), (8, .lit (.bool (lookB r.head.b.term q.l))), (58, .ptr bg 0), (59, .ptr bg 0), (60, .ptr bg 0), (61, .ptr bg (0 + 0)), (62, .sl q.own q.S (q.l.map eTerm)), (63, .ip (List.drop 1 (eSlot r.head.b))), (64, .agg (eTerm r.head.b.term)), (65, .sl .full 3 ([r.head.b.term].map eTerm))] (fun hh => hh bg = (some (.row [q.cell eTerm, .mp bm, .sl .nil 0 []]))) _ (tmx := [(62, .sl q.own q.S (q.l.map eTerm)), (65, .sl .full 3 ([r.head.b.term].map eTerm))]) rfl hmixed (by kernel_rfl) rfl rfl rfl rfl rfl hrow2 ⟨.inl ⟨4, by kernel_rfl, rfl, rfl⟩, .inl ⟨7, by kernel_rfl, rfl, rfl⟩, trivial⟩ (MO_appT (f := eTerm) (acc := q.l) (ys := [r.head.b.term]) (os := [(q.own, q.l.length)]) (i := 0) rfl un37 un37 ty25 z25 rfl by25 rfl rfl hqS (by simp) htok2 rfl hle2 (by simp only [List.length_singleton]; omega) (by simp only [List.length_singleton]; omega)) (fun _ _ ⟨_, _, _, _, hs⟩ => hs.row hrow2) rfl (by kernel_rfl) (fun hh hK => ⟨
     ⟨[(3, .ptr bg 0)], ⟨.inr ⟨by kernel_rfl, rfl⟩, trivial⟩, .inl ⟨rfl, PO_move rfl rfl⟩⟩,
     ⟨[(3, .ptr bg 0)], ⟨.inr ⟨by kernel_rfl, rfl⟩, trivial⟩, .inl ⟨rfl, PO_move rfl rfl⟩⟩,
     ⟨[(59, .ptr bg 0)], ⟨.inl ⟨1, by kernel_rfl, rfl, rfl⟩, trivial⟩, .inl ⟨rfl, PO_nilCheck_ptr rfl rfl⟩⟩,
     ⟨[(60, .ptr bg 0)], ⟨.inl ⟨2, by kernel_rfl, rfl, rfl⟩, trivial⟩, .inl ⟨rfl, PO_fieldAddr_row rfl f62_0 rfl⟩⟩,
     ⟨[(61, .ptr bg (0 + 0))], ⟨.inl ⟨3, by kernel_rfl, rfl, rfl⟩, trivial⟩, .inl ⟨rfl, PO_load_row rfl ty37 rfl hK rfl⟩⟩,
     ⟨[(6, .ip (eSlot r.head.b))], ⟨.inr ⟨by kernel_rfl, rfl⟩, trivial⟩, .inl ⟨rfl, PO_fieldAddr rfl f41_1 rfl⟩⟩,
     ⟨[(63, .ip (List.drop 1 (eSlot r.head.b)))], ⟨.inl ⟨5, by kernel_rfl, rfl, rfl⟩, trivial⟩, .inl ⟨rfl, PO_load rfl ty25 rfl rfl⟩⟩,
     ⟨[(64, .agg (eTerm r.head.b.term))], ⟨.inl ⟨6, by kernel_rfl, rfl, rfl⟩, trivial⟩, .inl ⟨rfl, PO_buildSlice (n := 1) (S := 3) (rs := eTerm r.head.b.term ++ []) rfl un37 ty25 z25 rfl rfl rfl (by decide) rfl (by decide)⟩⟩,
     trivial⟩) ⟨.inr ⟨by kernel_rfl, rfl⟩, .inr ⟨by kernel_rfl, rfl⟩, .inr ⟨by kernel_rfl, rfl⟩, .inr ⟨by kernel_rfl, rfl⟩, .inr ⟨by kernel_rfl, rfl⟩, .inr ⟨by kernel_rfl, rfl⟩, .inr ⟨by kernel_rfl, rfl⟩, .inr ⟨by kernel_rfl, rfl⟩, .inr ⟨by kernel_rfl, rfl⟩, .inl ⟨0, by decide, rfl, rfl⟩, .inl ⟨1, by decide, rfl, rfl⟩, .inl ⟨2, by decide, rfl, rfl⟩, .inl ⟨3, by decide, rfl, rfl⟩, .inl ⟨4, by decide, rfl, rfl⟩, .inl ⟨5, by decide, rfl, rfl⟩, .inl ⟨6, by decide, rfl, rfl⟩, .inl ⟨7, by decide, rfl, rfl⟩, trivial⟩ ?_
    rintro _ hq ⟨own2, rfl, hT, hleq, hsame⟩
    refine qp (v := .ptr bg 0) (PO_nilCheck_ptr rfl rfl) ?_
    refine qp (v := .ptr bg (0 + 0)) (PO_fieldAddr_row rfl f62_0 rfl) ?_
    refine AL_storeC (b := bg) (off := 0) (cs := [q.cell eTerm, .mp bm, .sl .nil 0 []]) (vs := [.sl own2 3 ((q.l ++ [r.head.b.term]).map eTerm)]) (v := .sl own2 3 ((q.l ++ [r.head.b.term]).map eTerm)) rfl rfl rfl rfl ty37 rfl rfl (hsame.row hrow2) rfl rfl (by simp) ?_
    have hrow3 := Heap.upd_same hq bg (some (.row (setCells [q.cell eTerm, .mp bm, .sl .nil 0 []] 0 [.sl own2 3 ((q.l ++ [r.head.b.term]).map eTerm)])))
    have hmap3 := (Heap.upd_other hq hgm.symm (some (.row (setCells [q.cell eTerm, .mp bm, .sl .nil 0 []] 0 [.sl own2 3 ((q.l ++ [r.head.b.term]).map eTerm)])))).trans (hsame.map hmap2)
    have hle3 := Heap.le_upd hleq hbg (some (.row (setCells [q.cell eTerm, .mp bm, .sl .nil 0 []] 0 [.sl own2 3 ((q.l ++ [r.head.b.term]).map eTerm)])))
    have htok3 := hT.upd (b := bg) (x := some (.row (setCells [q.cell eTerm, .mp bm, .sl .nil 0 []] 0 [.sl own2 3 ((q.l ++ [r.head.b.term]).map eTerm)]))) (fun m S e => by rw [hsame.row hrow2] at e; cases e)
    generalize hq.upd bg (some (.row (setCells [q.cell eTerm, .mp bm, .sl .nil 0 []] 0 [.sl own2 3 ((q.l ++ [r.head.b.term]).map eTerm)]))) = h3 at hrow3 hmap3 hle3 htok3 ⊢
    refine AL_keep [(23,_),(0,_),(2,_),(3,_),(21,_),(22,_),(5,_),(6,_),(8,_)] ⟨rfl,rfl,rfl,rfl,rfl,rfl,rfl,rfl,rfl,trivial⟩ ?_
    refine AL_nil (AW_region rfl ?_)
    refine qp (v := vn (i + 1)) (PO_inc rfl rfl rfl (by first | omega | simp_all; omega)) ?_
    refine qm ?_
    refine AL_keep [(23,_),(0,_),(2,_),(3,_),(21,_),(22,_),(5,_),(6,_),(8,_)] ⟨rfl,rfl,rfl,rfl,rfl,rfl,rfl,rfl,rfl,trivial⟩ ?_
    refine AL_nil ?_
    exact ⟨(i + 1, ⟨own2, 3, q.l ++ [r.head.b.term]⟩, h3), ⟨by omega, hS, by simp; omega, .inl rfl, hle3, hrow3, hmap3, htok3⟩, by simp only []; omega, ⟨rfl, ⟨rfl, rfl, rfl, rfl, rfl, rfl, trivial⟩, rfl, rfl, rfl⟩⟩
   ·rw [if_neg (by simp only [Bool.and_eq_true, decide_eq_true_eq]; rintro ⟨h1, h2⟩; rw [h1] at hc7; simp only [decide_true, Bool.true_and, Bool.not_eq_false', lookB, decide_eq_true_eq] at hc7; omega)] at hS
    refine AW_skip (AW_region rfl ?_)
    refine qp (v := vn (i + 1)) (PO_inc rfl rfl rfl (by first | omega | simp_all; omega)) ?_
    refine qm ?_
    refine AL_keep [(23,_),(0,_),(2,_),(3,_),(21,_),(22,_),(5,_),(6,_),(8,_)] ⟨rfl,rfl,rfl,rfl,rfl,rfl,rfl,rfl,rfl,trivial⟩ ?_
    refine AL_nil ?_
    exact ⟨(i + 1, q, hp), ⟨by omega, hS, by omega, hqS, hle, hrow, hmap, htok⟩, by simp only []; omega, ⟨rfl, ⟨rfl, rfl, rfl, rfl, rfl, rfl, trivial⟩, rfl, rfl, rfl⟩⟩
 ·replace hc3 := of_decide_eq_false hc3
  rw [drop_end (l := l) (i := i) (by omega), predF] at hS
  have hnm := hS
  rw [← hS] at hmap
  have hNl := predF_len l []
  simp only [List.length_nil] at hNl
  refine AW_exit ?_
  refine AW_seq (AW_region rfl ?_)
  refine qm ?_
  refine qm ?_
  refine qp (v := .ptr bg 0) (PO_nilCheck_ptr rfl rfl) ?_
  refine qp (v := .ptr bg (0 + 0)) (PO_fieldAddr_row rfl f62_0 rfl) ?_
  refine qp (v := .sl q.own q.S (q.l.map eTerm)) (PO_load_row rfl ty37 rfl hrow rfl) ?_
  refine qp (v := vi ((predF l []).length : Int)) (PO_eqI (PO_lenM rfl un37 rfl) (by rw [hnm])) ?_
  refine AL_makeSl rfl rfl rfl rfl un60 ty81 z81 rfl by81 rfl rfl (by omega) (by omega) fun bo hbo0 => ?_
  have hbo1 : hp bo = none := hbo0
  have hbo : h bo = none := Heap.none_of hle hbo1
  have hgo : bg ≠ bo := fun e => by rw [← e, hrow] at hbo1; cases hbo1
  have hmo : bm ≠ bo := fun e => by rw [← e, hmap] at hbo1; cases hbo1
  have hz0 : azeros zs81 (predF l []).length = (List.replicate (predF l []).length (⟨.nil, 0, []⟩ : Gs Edg)).map (Gs.cell eEdg) := by
   rw [List.map_replicate]
   generalize (predF l []).length = m
   induction m with
   | zero => rfl
   | succ m ih => rw [List.replicate_succ, ← ih]; rfl
  rw [hz0]
  have hrow4 := (Heap.upd_other hp hgo (some (.row ((List.replicate (predF l []).length (⟨.nil, 0, []⟩ : Gs Edg)).map (Gs.cell eEdg))))).trans hrow
  have hmap4 := (Heap.upd_other hp hmo (some (.row ((List.replicate (predF l []).length (⟨.nil, 0, []⟩ : Gs Edg)).map (Gs.cell eEdg))))).trans hmap
  have hfo4 := Heap.upd_same hp bo (some (.row ((List.replicate (predF l []).length (⟨.nil, 0, []⟩ : Gs Edg)).map (Gs.cell eEdg))))
  have hle4 := Heap.le_upd hle hbo (some (.row ((List.replicate (predF l []).length (⟨.nil, 0, []⟩ : Gs Edg)).map (Gs.cell eEdg))))
  generalize hp.upd bo (some (.row ((List.replicate (predF l []).length (⟨.nil, 0, []⟩ : Gs Edg)).map (Gs.cell eEdg)))) = h4 at hrow4 hmap4 hfo4 hle4 ⊢
  refine qp (v := .ptr bg 0) (PO_nilCheck_ptr rfl rfl) ?_
  refine qp (v := .ptr bg (0 + 2)) (PO_fieldAddr_row rfl f62_2 rfl) ?_
  refine AL_storeC (b := bg) (off := 2) (cs := [q.cell eTerm, .mp bm, .sl .nil 0 []]) (vs := [.ms bo 0 1 (predF l []).length (predF l []).length]) (v := .ms bo 0 1 (predF l []).length (predF l []).length) rfl rfl rfl rfl ty60 rfl rfl hrow4 rfl rfl (by simp) ?_
  have hrow5 := Heap.upd_same h4 bg (some (.row (setCells [q.cell eTerm, .mp bm, .sl .nil 0 []] 2 [.ms bo 0 1 (predF l []).length (predF l []).length])))
  have hmap5 := (Heap.upd_other h4 hgm.symm (some (.row (setCells [q.cell eTerm, .mp bm, .sl .nil 0 []] 2 [.ms bo 0 1 (predF l []).length (predF l []).length])))).trans hmap4
  have hfo5 : Forest eEdg 2 (h4.upd bg (some (.row (setCells [q.cell eTerm, .mp bm, .sl .nil 0 []] 2 [.ms bo 0 1 (predF l []).length (predF l []).length])))) h bo (List.replicate (predF l []).length ⟨.nil, 0, []⟩) := ⟨(Heap.upd_other h4 hgo.symm (some (.row (setCells [q.cell eTerm, .mp bm, .sl .nil 0 []] 2 [.ms bo 0 1 (predF l []).length (predF l []).length])))).trans hfo4, ⟨(fun i o m e => by
   rw [List.map_replicate, List.getElem?_replicate] at e
   split at e
   ·injection e with e; injection e with e1 e2; exact .inl ⟨e1.symm, e2.symm⟩
   ·cases e), (fun i j b m m' e1 e2 => by
   rw [List.map_replicate, List.getElem?_replicate] at e1
   split at e1
   ·injection e1 with e1; injection e1 with e1 _; cases e1
   ·cases e1)⟩, fun p hp => by rw [List.eq_of_mem_replicate hp]; exact .inr rfl⟩
  have hle5 := Heap.le_upd hle4 hbg (some (.row (setCells [q.cell eTerm, .mp bm, .sl .nil 0 []] 2 [.ms bo 0 1 (predF l []).length (predF l []).length])))
  generalize h4.upd bg (some (.row (setCells [q.cell eTerm, .mp bm, .sl .nil 0 []] 2 [.ms bo 0 1 (predF l []).length (predF l []).length]))) = h5 at hrow5 hmap5 hfo5 hle5 ⊢
  refine AL_keep [(23,_),(0,_),(2,_),(3,_),(21,_),(22,_)] ⟨rfl,rfl,rfl,rfl,rfl,rfl,trivial⟩ ?_
  refine AL_nil (AW_seq (AW_seq (AW_region rfl ?_)))
  refine qm ?_
  refine qp (v := vi (l.length : Int)) (PO_lenM rfl un22 rfl) ?_
  refine qm (v := vi 0) ?_
  refine AL_nil (AW_block ?_)
  refine AW_iter (fun (z_ : Nat × Nat × List (Gs Edg) × Heap) => match z_ with | (i, c, fo, hp) => [(81, .lit (.int .i64 ((i : Nat) : Int))), (2, .lit (.pointer none)), (3, .ptr bg 0), (79, .sl .any 13 (l.map eRule)), (80, .lit (.int .i64 (l.length : Int)))]) (fun (z_ : Nat × Nat × List (Gs Edg) × Heap) => match z_ with | (i, c, fo, hp) => hp) (fun (z_ : Nat × Nat × List (Gs Edg) × Heap) => match z_ with | (i, c, fo, hp) => i ≤ l.length ∧ c + bods (l.drop i) ≤ 1048576 ∧ outF (predF l []) l (List.replicate (predF l []).length []) = outF (predF l []) (l.drop i) (fo.map Gs.l) ∧ (∀ p ∈ fo, p.l.length ≤ 1048576 * c) ∧ h.le hp ∧ hp bg = (some (.row [q.cell eTerm, .mp bm, .ms bo 0 1 (predF l []).length (predF l []).length])) ∧ hp bm = some (.map ks25 true (atL (predF l []) 0)) ∧ Forest eEdg 2 hp h bo fo ∧ fo.length = (predF l []).length) (fun (z_ : Nat × Nat × List (Gs Edg) × Heap) => match z_ with | (i, c, fo, hp) => l.length - i) ((0, 0, (List.replicate (predF l []).length ⟨.nil, 0, []⟩), h5)) ⟨rfl, rfl, rfl, rfl, rfl, trivial⟩ rfl (⟨by omega, by simpa using hbods, by rw [List.map_replicate]; rfl, fun p hp => by rw [List.eq_of_mem_replicate hp]; simp, hle5, hrow5, hmap5, hfo5, by simp⟩) ?_
  rintro ⟨i, c, fo, hp⟩ ⟨hIi, hcb, hS, hbd, hleA, hrwA, hmpA, hfoA, hlnA⟩
  refine AW_seq (AW_region rfl ?_)
  refine qp (v := vb (decide ((((i : Nat) : Int) : Int) < (l.length : Int)))) pI ?_
  refine AL_nil (AW_seq ?_)
  refine AW_cond _ rfl (fun hc13 => ?_) (fun hc13 => ?_)
  ·replace hc13 := of_decide_eq_true hc13
   obtain ⟨r, hrr, hdr, hmr⟩ := drop_at (l := l) (i := i) (by omega)
   rw [hdr, outF] at hS
   rw [hdr, bods] at hcb
   have hokr := hl.2 r hmr
   refine AW_skip (AW_seq (AW_block (AW_seq (AW_region rfl ?_))))
   refine qp (v := .ip (eRule r)) (PO_indexAddr rfl un22 ty46 rfl rfl (by first | decide | omega) (mget hrr)) ?_
   refine qp (v := .agg (eRule r)) (PO_load rfl ty46 rfl rfl) ?_
   refine AL_als rfl rfl rfl rfl rfl rfl al46 rfl rfl rfl rfl rfl ?_
   refine AL_keep [(81,_),(2,_),(3,_),(79,_),(80,_),(10,_)] ⟨rfl,rfl,rfl,rfl,rfl,rfl,trivial⟩ ?_
   refine AL_nil (AW_seq (AW_seq (AW_region rfl ?_)))
   refine qp (v := .ip (List.drop 0 (eRule r))) (PO_fieldAddr rfl f46_0 rfl) ?_
   refine qp (v := .ip (List.drop (1 * 4) (List.drop 0 (eRule r)))) (PO_indexAddr_arr (i := 1) rfl un43 ty41 rfl rfl (by decide) (by decide)) ?_
   refine qp (v := .ip (List.drop 0 (List.drop (1 * 4) (List.drop 0 (eRule r))))) (PO_fieldAddr rfl f41_0 rfl) ?_
   refine qp (v := vs r.head.b.var) (PO_load rfl ty9 rfl rfl) ?_
   refine qp (v := vb (decide (r.head.b.var ≠ ⟨#[]⟩))) (PO_str rfl rfl rfl rfl) ?_
   refine AL_keep [(81,_),(2,_),(3,_),(79,_),(80,_),(10,_),(89,_)] ⟨rfl,rfl,rfl,rfl,rfl,rfl,rfl,trivial⟩ ?_
   refine AL_nil ?_
   refine AW_cond _ rfl (fun hc15 => ?_) (fun hc15 => ?_)
   ·replace hc15 := of_decide_eq_true hc15
    rw [if_pos hc15] at hS
    refine AW_exit ?_
    refine AW_region rfl ?_
    refine qp (v := vn (i + 1)) (PO_inc rfl rfl rfl (by first | omega | simp_all; omega)) ?_
    refine qm ?_
    refine AL_keep [(81,_),(2,_),(3,_),(79,_),(80,_),(10,_)] ⟨rfl,rfl,rfl,rfl,rfl,rfl,trivial⟩ ?_
    refine AL_nil ?_
    exact ⟨(i + 1, c, fo, hp), ⟨by omega, by omega, hS, hbd, hleA, hrwA, hmpA, hfoA, hlnA⟩, by simp only []; omega, ⟨rfl, ⟨rfl, rfl, rfl, rfl, rfl, trivial⟩, rfl, rfl, rfl⟩⟩
   ·replace hc15 := of_decide_eq_false hc15
    rw [if_neg hc15] at hS
    have hlk := lookI_lt (predF_has (acc := []) hmr (by simpa using hc15))
    obtain ⟨fr, hfr⟩ : ∃ fr, fr = (lookI r.head.b.term (predF l [])).toNat := ⟨_, rfl⟩
    have hfrI : lookI r.head.b.term (predF l []) = ((fr : Nat) : Int) := by omega
    have hfrl : fr < (predF l []).length := by omega
    refine AW_skip (AW_seq ?_)
    refine AW_draw 10 [.ptr bg 0, .ptr bg 0, .ptr bg (0 + 1), .mp bm, .ip (List.drop 0 (eRule r)), .ip (List.drop (1 * 4) (List.drop 0 (eRule r))), .ip (List.drop 1 (List.drop (1 * 4) (List.drop 0 (eRule r)))), .agg (eTerm r.head.b.term), .lit (.int .i64 (lookI r.head.b.term (predF l []))), .lit (.int .i64 ((fr : Nat) : Int))] [(81, .lit (.int .i64 ((i : Nat) : Int))), (2, .lit (.pointer none)), (3, .ptr bg 0), (79, .sl .any 13 (l.map eRule)), (80, .lit (.int .i64 (l.length : Int))), (10, .ip (eRule r)), (11, .lit (.int .i64 ((fr : Nat) : Int)))] rfl hmixed (by kernel_rfl) rfl (by kernel_rfl) ⟨
     ⟨[(3, .ptr bg 0)], ⟨.inr ⟨by kernel_rfl, rfl⟩, trivial⟩, .inl ⟨rfl, PO_move rfl rfl⟩⟩,
     ⟨[(90, .ptr bg 0)], ⟨.inl ⟨0, by kernel_rfl, rfl, rfl⟩, trivial⟩, .inl ⟨rfl, PO_nilCheck_ptr rfl rfl⟩⟩,
     ⟨[(91, .ptr bg 0)], ⟨.inl ⟨1, by kernel_rfl, rfl, rfl⟩, trivial⟩, .inl ⟨rfl, PO_fieldAddr_row rfl f62_1 rfl⟩⟩,
     ⟨[(92, .ptr bg (0 + 1))], ⟨.inl ⟨2, by kernel_rfl, rfl, rfl⟩, trivial⟩, .inl ⟨rfl, PO_load_row rfl ty59 rfl hrwA rfl⟩⟩,
     ⟨[(10, .ip (eRule r))], ⟨.inr ⟨by kernel_rfl, rfl⟩, trivial⟩, .inl ⟨rfl, PO_fieldAddr rfl f46_0 rfl⟩⟩,
     ⟨[(94, .ip (List.drop 0 (eRule r)))], ⟨.inl ⟨4, by kernel_rfl, rfl, rfl⟩, trivial⟩, .inl ⟨rfl, PO_indexAddr_arr (i := 1) rfl un43 ty41 rfl rfl (by decide) (by decide)⟩⟩,
     ⟨[(95, .ip (List.drop (1 * 4) (List.drop 0 (eRule r))))], ⟨.inl ⟨5, by kernel_rfl, rfl, rfl⟩, trivial⟩, .inl ⟨rfl, PO_fieldAddr rfl f41_1 rfl⟩⟩,
     ⟨[(96, .ip (List.drop 1 (List.drop (1 * 4) (List.drop 0 (eRule r)))))], ⟨.inl ⟨6, by kernel_rfl, rfl, rfl⟩, trivial⟩, .inl ⟨rfl, PO_load rfl ty25 rfl rfl⟩⟩,
     ⟨[(93, .mp bm), (97, .agg (eTerm r.head.b.term))], ⟨.inl ⟨3, by kernel_rfl, rfl, rfl⟩, .inl ⟨7, by kernel_rfl, rfl, rfl⟩, trivial⟩, .inl ⟨rfl, PO_lookO rfl rfl hmpA rfl⟩⟩,
     ⟨[(98, .lit (.int .i64 (lookI r.head.b.term (predF l []))))], ⟨.inl ⟨8, by kernel_rfl, rfl, rfl⟩, trivial⟩, .inl ⟨rfl, PO_eqI (PO_assign rfl rfl) hfrI⟩⟩,
     trivial⟩ ⟨.inr ⟨by kernel_rfl, rfl⟩, .inr ⟨by kernel_rfl, rfl⟩, .inr ⟨by kernel_rfl, rfl⟩, .inr ⟨by kernel_rfl, rfl⟩, .inr ⟨by kernel_rfl, rfl⟩, .inr ⟨by kernel_rfl, rfl⟩, .inl ⟨9, by decide, rfl, rfl⟩, trivial⟩ ?_
    refine AL_nil (AW_seq (AW_region rfl ?_))
    refine qp (v := .ip (List.drop 12 (eRule r))) (PO_fieldAddr rfl f46_1 rfl) ?_
    refine qp (v := vL r.body) (PO_load rfl ty44 rfl rfl) ?_
    refine qp (v := vi (r.body.length : Int)) (PO_lenM rfl un44 rfl) ?_
    refine qm (v := vi 0) ?_
    refine AL_keep [(81,_),(2,_),(3,_),(79,_),(80,_),(10,_),(11,_),(100,_),(101,_),(102,_)] ⟨rfl,rfl,rfl,rfl,rfl,rfl,rfl,rfl,rfl,rfl,trivial⟩ ?_
    refine AL_nil (AW_block ?_)
    refine AW_iter (fun (z_ : Nat × List (Gs Edg) × Heap) => match z_ with | (k, fo2, hp2) => [(102, .lit (.int .i64 ((k : Nat) : Int))), (81, .lit (.int .i64 ((i : Nat) : Int))), (2, .lit (.pointer none)), (3, .ptr bg 0), (79, .sl .any 13 (l.map eRule)), (80, .lit (.int .i64 (l.length : Int))), (11, .lit (.int .i64 ((fr : Nat) : Int))), (100, .sl .any 21 (r.body.map eLit)), (101, .lit (.int .i64 (r.body.length : Int)))]) (fun (z_ : Nat × List (Gs Edg) × Heap) => match z_ with | (k, fo2, hp2) => hp2) (fun (z_ : Nat × List (Gs Edg) × Heap) => match z_ with | (k, fo2, hp2) => k ≤ r.body.length ∧ outF (predF l []) l (List.replicate (predF l []).length []) = outF (predF l []) (l.drop (i + 1)) (addE (fo2.map Gs.l) fr (edgesL (predF l []) (r.body.drop k))) ∧ (∀ p ∈ fo2, p.l.length ≤ 1048576 * (c + k)) ∧ h.le hp2 ∧ hp2 bg = (some (.row [q.cell eTerm, .mp bm, .ms bo 0 1 (predF l []).length (predF l []).length])) ∧ hp2 bm = some (.map ks25 true (atL (predF l []) 0)) ∧ Forest eEdg 2 hp2 h bo fo2 ∧ fo2.length = (predF l []).length) (fun (z_ : Nat × List (Gs Edg) × Heap) => match z_ with | (k, fo2, hp2) => r.body.length - k) ((0, fo, hp)) ⟨rfl, rfl, rfl, rfl, rfl, rfl, rfl, rfl, rfl, trivial⟩ rfl (⟨by omega, by rw [hfr]; exact hS, fun p hp => by have := hbd p hp; omega, hleA, hrwA, hmpA, hfoA, hlnA⟩) ?_
    rintro ⟨k, fo2, hp2⟩ ⟨hIk, hS2, hbd2, hleB, hrwB, hmpB, hfoB, hlnB⟩
    refine AW_seq (AW_region rfl ?_)
    refine qp (v := vb (decide ((((k : Nat) : Int) : Int) < (r.body.length : Int)))) pI ?_
    refine AL_nil (AW_seq ?_)
    refine AW_cond _ rfl (fun hc18 => ?_) (fun hc18 => ?_)
    ·replace hc18 := of_decide_eq_true hc18
     obtain ⟨x, hrx, hdx, hmx⟩ := drop_at (l := r.body) (i := k) (by omega)
     rw [hdx, edgesL, edgeL] at hS2
     refine AW_skip ?_
     refine AW_join (α := List (Gs Edg) × Heap) (fun (z_ : List (Gs Edg) × Heap) => match z_ with | (fo3, hp3) => [(102, .lit (.int .i64 ((k : Nat) : Int))), (81, .lit (.int .i64 ((i : Nat) : Int))), (2, .lit (.pointer none)), (3, .ptr bg 0), (79, .sl .any 13 (l.map eRule)), (80, .lit (.int .i64 (l.length : Int))), (11, .lit (.int .i64 ((fr : Nat) : Int))), (100, .sl .any 21 (r.body.map eLit)), (101, .lit (.int .i64 (r.body.length : Int)))]) (fun (z_ : List (Gs Edg) × Heap) => match z_ with | (fo3, hp3) => hp3) (fun (z_ : List (Gs Edg) × Heap) => match z_ with | (fo3, hp3) => outF (predF l []) l (List.replicate (predF l []).length []) = outF (predF l []) (l.drop (i + 1)) (addE (fo3.map Gs.l) fr (edgesL (predF l []) (r.body.drop (k + 1)))) ∧ (∀ p ∈ fo3, p.l.length ≤ 1048576 * (c + k + 1)) ∧ h.le hp3 ∧ hp3 bg = (some (.row [q.cell eTerm, .mp bm, .ms bo 0 1 (predF l []).length (predF l []).length])) ∧ hp3 bm = some (.map ks25 true (atL (predF l []) 0)) ∧ Forest eEdg 2 hp3 h bo fo3 ∧ fo3.length = (predF l []).length) ?_ ?_
     ·refine AW_block (AW_seq (AW_region rfl ?_))
      refine qp (v := .ip (eLit x)) (PO_indexAddr rfl un44 ty68 rfl rfl (by first | decide | omega) (mget hrx)) ?_
      refine qp (v := .agg (eLit x)) (PO_load rfl ty68 rfl rfl) ?_
      refine AL_als rfl rfl rfl rfl rfl rfl al68 rfl rfl rfl rfl rfl ?_
      refine AL_keep [(102,_),(81,_),(2,_),(3,_),(79,_),(80,_),(11,_),(100,_),(101,_),(13,_)] ⟨rfl,rfl,rfl,rfl,rfl,rfl,rfl,rfl,rfl,rfl,trivial⟩ ?_
      refine AL_nil (AW_seq (AW_region rfl ?_))
      refine qp (v := .ip (List.drop 1 (eLit x))) (PO_fieldAddr rfl f68_1 rfl) ?_
      refine qp (v := .ip (List.drop (1 * 4) (List.drop 1 (eLit x)))) (PO_indexAddr_arr (i := 1) rfl un43 ty41 rfl rfl (by decide) (by decide)) ?_
      refine qp (v := .agg (eSlot x.pat.b)) (PO_load rfl ty41 rfl rfl) ?_
      refine AL_als rfl rfl rfl rfl rfl rfl al41 rfl rfl rfl rfl rfl ?_
      refine AL_keep [(102,_),(81,_),(2,_),(3,_),(79,_),(80,_),(11,_),(100,_),(101,_),(13,_),(14,_)] ⟨rfl,rfl,rfl,rfl,rfl,rfl,rfl,rfl,rfl,rfl,rfl,trivial⟩ ?_
      refine AL_nil (AW_block (AW_seq (AW_region rfl ?_)))
      refine qp (v := .ip (List.drop 0 (eLit x))) (PO_fieldAddr rfl f68_0 rfl) ?_
      refine qp (v := vi x.kind) (PO_load rfl ty66 rfl rfl) ?_
      refine qp (v := vb (decide ((x.kind : Int) ≠ 1))) pI ?_
      refine qm ?_
      refine AL_jk 4 148 (vb ((decide ((x.kind : Int) ≠ 1)) && (decide ((x.kind : Int) ≠ 2)))) [(102,_),(81,_),(2,_),(3,_),(79,_),(80,_),(11,_),(100,_),(101,_),(13,_),(14,_),(141,_),(142,_),(143,_),(144,_)] ⟨rfl,rfl,rfl,rfl,rfl,rfl,rfl,rfl,rfl,rfl,rfl,rfl,rfl,rfl,rfl,trivial⟩ ?_ ?_
      ·refine AL_split 144 _ rfl (fun hg144 => ?_) (fun hg144 => ?_)
       ·refine qg (v := .ip (List.drop 0 (eLit x))) (PO_fieldAddr rfl f68_0 rfl) ?_
        refine qg (v := vi x.kind) (PO_load rfl ty66 rfl rfl) ?_
        refine qg (v := vb (decide ((x.kind : Int) ≠ 2))) pI ?_
        refine qk ?_
        refine AL_say (k := 148) (vb ((decide ((x.kind : Int) ≠ 1)) && (decide ((x.kind : Int) ≠ 2)))) rfl (by rw [hg144]; rfl) ?_
        refine AL_say (k := 144) (vb (decide ((x.kind : Int) ≠ 1))) rfl (by rw [hg144]) ?_
        exact nl ⟨rfl,rfl,rfl,rfl,rfl,rfl,rfl,rfl,rfl,rfl,rfl,rfl,rfl,rfl,rfl,rfl,trivial⟩
       ·refine qz ?_
        refine qz ?_
        refine qz ?_
        refine qk ?_
        refine AL_say (k := 148) (vb ((decide ((x.kind : Int) ≠ 1)) && (decide ((x.kind : Int) ≠ 2)))) rfl (by rw [hg144]; rfl) ?_
        refine AL_say (k := 144) (vb (decide ((x.kind : Int) ≠ 1))) rfl (by rw [hg144]) ?_
        exact nl ⟨rfl,rfl,rfl,rfl,rfl,rfl,rfl,rfl,rfl,rfl,rfl,rfl,rfl,rfl,rfl,rfl,trivial⟩
      ·refine qa ?_
       refine AL_keep [(102,_),(81,_),(2,_),(3,_),(79,_),(80,_),(11,_),(100,_),(101,_),(13,_),(14,_),(140,_)] ⟨rfl,rfl,rfl,rfl,rfl,rfl,rfl,rfl,rfl,rfl,rfl,rfl,trivial⟩ ?_
       refine AL_nil ?_
       refine AW_cond _ rfl (fun hc24 => ?_) (fun hc24 => ?_)
       ·rw [if_pos hc24, List.nil_append] at hS2
        refine AW_skip ?_
        exact ⟨(fo2, hp2), ⟨hS2, fun p hp => by have := hbd2 p hp; omega, hleB, hrwB, hmpB, hfoB, hlnB⟩, ⟨rfl, ⟨rfl, rfl, rfl, rfl, rfl, rfl, rfl, rfl, rfl, trivial⟩, rfl, rfl, rfl⟩⟩
       ·rw [if_neg (by rw [hc24]; simp)] at hS2
        refine AW_seq (AW_region rfl ?_)
        refine qp (v := .ip (List.drop 0 (eSlot x.pat.b))) (PO_fieldAddr rfl f41_0 rfl) ?_
        refine qp (v := vs x.pat.b.var) (PO_load rfl ty9 rfl rfl) ?_
        refine qp (v := vb (decide (x.pat.b.var ≠ ⟨#[]⟩))) (PO_str rfl rfl rfl rfl) ?_
        refine qa ?_
        refine AL_keep [(102,_),(81,_),(2,_),(3,_),(79,_),(80,_),(11,_),(100,_),(101,_),(13,_),(14,_),(149,_)] ⟨rfl,rfl,rfl,rfl,rfl,rfl,rfl,rfl,rfl,rfl,rfl,rfl,trivial⟩ ?_
        refine AL_nil ?_
        refine AW_cond _ rfl (fun hc25 => ?_) (fun hc25 => ?_)
        ·replace hc25 := of_decide_eq_true hc25
         rw [if_pos hc25] at hS2
         refine AW_seq (AW_region rfl ?_)
         refine qm ?_
         refine qp (v := .ptr bg 0) (PO_nilCheck_ptr rfl rfl) ?_
         refine qp (v := .ptr bg (0 + 0)) (PO_fieldAddr_row rfl f62_0 rfl) ?_
         refine qp (v := .sl q.own q.S (q.l.map eTerm)) (PO_load_row rfl ty37 rfl hrwB rfl) ?_
         refine qp (v := vi ((predF l []).length : Int)) (PO_eqI (PO_lenM rfl un37 rfl) (by rw [hnm])) ?_
         refine qm (v := vi 0) ?_
         refine AL_keep [(102,_),(81,_),(2,_),(3,_),(79,_),(80,_),(11,_),(100,_),(101,_),(13,_),(14,_),(157,_),(158,_)] ⟨rfl,rfl,rfl,rfl,rfl,rfl,rfl,rfl,rfl,rfl,rfl,rfl,rfl,trivial⟩ ?_
         refine AL_nil (AW_block ?_)
         refine AW_iter (fun (z_ : Nat × List (Gs Edg) × Heap) => match z_ with | (j, fo4, hp4) => [(158, .lit (.int .i64 ((j : Nat) : Int))), (102, .lit (.int .i64 ((k : Nat) : Int))), (81, .lit (.int .i64 ((i : Nat) : Int))), (2, .lit (.pointer none)), (3, .ptr bg 0), (79, .sl .any 13 (l.map eRule)), (80, .lit (.int .i64 (l.length : Int))), (11, .lit (.int .i64 ((fr : Nat) : Int))), (100, .sl .any 21 (r.body.map eLit)), (101, .lit (.int .i64 (r.body.length : Int))), (157, .lit (.int .i64 ((predF l []).length : Int)))]) (fun (z_ : Nat × List (Gs Edg) × Heap) => match z_ with | (j, fo4, hp4) => hp4) (fun (z_ : Nat × List (Gs Edg) × Heap) => match z_ with | (j, fo4, hp4) => j ≤ (predF l []).length ∧ outF (predF l []) l (List.replicate (predF l []).length []) = outF (predF l []) (l.drop (i + 1)) (addE (fo4.map Gs.l) fr ((((List.range (predF l []).length).drop j).map (fun (k : Nat) => (⟨k, false⟩ : Edg))) ++ edgesL (predF l []) (r.body.drop (k + 1)))) ∧ (∀ p ∈ fo4, p.l.length ≤ 1048576 * (c + k) + j) ∧ h.le hp4 ∧ hp4 bg = (some (.row [q.cell eTerm, .mp bm, .ms bo 0 1 (predF l []).length (predF l []).length])) ∧ hp4 bm = some (.map ks25 true (atL (predF l []) 0)) ∧ Forest eEdg 2 hp4 h bo fo4 ∧ fo4.length = (predF l []).length) (fun (z_ : Nat × List (Gs Edg) × Heap) => match z_ with | (j, fo4, hp4) => (predF l []).length - j) ((0, fo2, hp2)) ⟨rfl, rfl, rfl, rfl, rfl, rfl, rfl, rfl, rfl, rfl, rfl, trivial⟩ rfl (⟨by omega, hS2, fun p hp => by have := hbd2 p hp; omega, hleB, hrwB, hmpB, hfoB, hlnB⟩) ?_
         rintro ⟨j, fo4, hp4⟩ ⟨hIj, hS4, hbd4, hleD, hrwD, hmpD, hfoD, hlnD⟩
         refine AW_seq (AW_region rfl ?_)
         refine qp (v := vb (decide ((((j : Nat) : Int) : Int) < ((predF l []).length : Int)))) pI ?_
         refine AL_nil (AW_seq ?_)
         refine AW_cond _ rfl (fun hc27 => ?_) (fun hc27 => ?_)
         ·replace hc27 := of_decide_eq_true hc27
          have hjr : (List.range (predF l []).length).drop j = j :: (List.range (predF l []).length).drop (j + 1) := by
           rw [List.drop_eq_getElem_cons (by rw [List.length_range]; omega), List.getElem_range]
          rw [hjr, List.map_cons, List.cons_append] at hS4
          obtain ⟨p, hp_, -, hpm⟩ := drop_at (l := fo4) (i := fr) (by omega)
          have hpl := hbd4 p hpm
          refine AW_skip (AW_seq (AW_block (AW_seq (AW_region rfl ?_))))
          refine qm ?_
          refine qa ?_
          refine AL_keep [(158,_),(102,_),(81,_),(2,_),(3,_),(79,_),(80,_),(11,_),(100,_),(101,_),(157,_),(15,_)] ⟨rfl,rfl,rfl,rfl,rfl,rfl,rfl,rfl,rfl,rfl,rfl,rfl,trivial⟩ ?_
          refine AL_nil ?_
          refine AW_draw1 15 [.ptr bg 0, .ptr bg 0, .ptr bg (0 + 2), .ms bo 0 1 ((predF l []).length) ((predF l []).length), .lit (.int .i64 ((fr : Nat) : Int)), .ptr bg 0, .ptr bg 0, .ptr bg (0 + 2), .ms bo 0 1 ((predF l []).length) ((predF l []).length), .lit (.int .i64 ((fr : Nat) : Int)), .ptr bo fr, .sl p.own p.S (p.l.map eEdg), .lit (.int .i64 ((j : Nat) : Int)), .agg (eEdg (⟨((j : Nat) : Int), false⟩ : Edg)), .sl .full 2 ([(⟨((j : Nat) : Int), false⟩ : Edg)].map eEdg)] [(158, .lit (.int .i64 ((j : Nat) : Int))), (102, .lit (.int .i64 ((k : Nat) : Int))), (81, .lit (.int .i64 ((i : Nat) : Int))), (2, .lit (.pointer none)), (3, .ptr bg 0), (79, .sl .any 13 (l.map eRule)), (80, .lit (.int .i64 (l.length : Int))), (11, .lit (.int .i64 ((fr : Nat) : Int))), (100, .sl .any 21 (r.body.map eLit)), (101, .lit (.int .i64 (r.body.length : Int))), (157, .lit (.int .i64 ((predF l []).length : Int))), (15, .lit (.int .i64 ((j : Nat) : Int))), (161, .ptr bg 0), (162, .ptr bg 0), (163, .ptr bg (0 + 2)), (164, .ms bo 0 1 ((predF l []).length) ((predF l []).length)), (165, .lit (.int .i64 ((fr : Nat) : Int))), (166, .ptr bg 0), (167, .ptr bg 0), (168, .ptr bg (0 + 2)), (169, .ms bo 0 1 ((predF l []).length) ((predF l []).length)), (170, .lit (.int .i64 ((fr : Nat) : Int))), (171, .ptr bo fr), (172, .sl p.own p.S (p.l.map eEdg)), (173, .lit (.int .i64 ((j : Nat) : Int))), (174, .agg (eEdg (⟨((j : Nat) : Int), false⟩ : Edg))), (175, .sl .full 2 ([(⟨((j : Nat) : Int), false⟩ : Edg)].map eEdg))] (fun hh => hh bg = (some (.row [q.cell eTerm, .mp bm, .ms bo 0 1 (predF l []).length (predF l []).length])) ∧ hh bo = some (.row (fo4.map (Gs.cell eEdg)))) _ (tmx := [(172, .sl p.own p.S (p.l.map eEdg)), (175, .sl .full 2 ([(⟨((j : Nat) : Int), false⟩ : Edg)].map eEdg))]) rfl hmixed (by kernel_rfl) rfl rfl rfl rfl rfl ⟨hrwD, hfoD.row⟩ ⟨.inl ⟨11, by kernel_rfl, rfl, rfl⟩, .inl ⟨14, by kernel_rfl, rfl, rfl⟩, trivial⟩ (MO_appT (f := eEdg) (acc := p.l) (ys := [(⟨((j : Nat) : Int), false⟩ : Edg)]) (os := fo4.map Gs.ow) (i := fr) rfl un81 un81 ty83 z83 rfl by83 rfl rfl (hfoD.sz p hpm) (by simp) hfoD.toks (by rw [List.getElem?_map, hp_]; rfl) hleD (by simp only [List.length_singleton]; omega) (by simp only [List.length_singleton]; omega)) (fun _ _ ⟨_, _, _, _, hs⟩ => ⟨hs.row hrwD, hs.row hfoD.row⟩) rfl (by kernel_rfl) (fun hh hK => ⟨
           ⟨[(3, .ptr bg 0)], ⟨.inr ⟨by kernel_rfl, rfl⟩, trivial⟩, .inl ⟨rfl, PO_move rfl rfl⟩⟩,
           ⟨[(161, .ptr bg 0)], ⟨.inl ⟨0, by kernel_rfl, rfl, rfl⟩, trivial⟩, .inl ⟨rfl, PO_nilCheck_ptr rfl rfl⟩⟩,
           ⟨[(162, .ptr bg 0)], ⟨.inl ⟨1, by kernel_rfl, rfl, rfl⟩, trivial⟩, .inl ⟨rfl, PO_fieldAddr_row rfl f62_2 rfl⟩⟩,
           ⟨[(163, .ptr bg (0 + 2))], ⟨.inl ⟨2, by kernel_rfl, rfl, rfl⟩, trivial⟩, .inl ⟨rfl, PO_load_row rfl ty60 rfl hK.1 rfl⟩⟩,
           ⟨[(11, .lit (.int .i64 ((fr : Nat) : Int)))], ⟨.inr ⟨by kernel_rfl, rfl⟩, trivial⟩, .inl ⟨rfl, PO_move rfl rfl⟩⟩,
           ⟨[(3, .ptr bg 0)], ⟨.inr ⟨by kernel_rfl, rfl⟩, trivial⟩, .inl ⟨rfl, PO_move rfl rfl⟩⟩,
           ⟨[(166, .ptr bg 0)], ⟨.inl ⟨5, by kernel_rfl, rfl, rfl⟩, trivial⟩, .inl ⟨rfl, PO_nilCheck_ptr rfl rfl⟩⟩,
           ⟨[(167, .ptr bg 0)], ⟨.inl ⟨6, by kernel_rfl, rfl, rfl⟩, trivial⟩, .inl ⟨rfl, PO_fieldAddr_row rfl f62_2 rfl⟩⟩,
           ⟨[(168, .ptr bg (0 + 2))], ⟨.inl ⟨7, by kernel_rfl, rfl, rfl⟩, trivial⟩, .inl ⟨rfl, PO_load_row rfl ty60 rfl hK.1 rfl⟩⟩,
           ⟨[(11, .lit (.int .i64 ((fr : Nat) : Int)))], ⟨.inr ⟨by kernel_rfl, rfl⟩, trivial⟩, .inl ⟨rfl, PO_move rfl rfl⟩⟩,
           ⟨[(169, .ms bo 0 1 ((predF l []).length) ((predF l []).length)), (170, .lit (.int .i64 ((fr : Nat) : Int)))], ⟨.inl ⟨8, by kernel_rfl, rfl, rfl⟩, .inl ⟨9, by kernel_rfl, rfl, rfl⟩, trivial⟩, .inl ⟨rfl, PO_ixj rfl un60 ty81 rfl rfl (by omega)⟩⟩,
           ⟨[(171, .ptr bo fr)], ⟨.inl ⟨10, by kernel_rfl, rfl, rfl⟩, trivial⟩, .inl ⟨rfl, PO_load_row rfl ty81 rfl hK.2 (gs_load hp_ rfl)⟩⟩,
           ⟨[(15, .lit (.int .i64 ((j : Nat) : Int)))], ⟨.inr ⟨by kernel_rfl, rfl⟩, trivial⟩, .inl ⟨rfl, PO_move rfl rfl⟩⟩,
           ⟨[(173, .lit (.int .i64 ((j : Nat) : Int)))], ⟨.inl ⟨12, by kernel_rfl, rfl, rfl⟩, trivial⟩, .inl ⟨rfl, PO_build rfl z83 pl83 rfl rfl⟩⟩,
           ⟨[(174, .agg (eEdg (⟨((j : Nat) : Int), false⟩ : Edg)))], ⟨.inl ⟨13, by kernel_rfl, rfl, rfl⟩, trivial⟩, .inl ⟨rfl, PO_buildSlice (n := 1) (S := 2) (rs := eEdg (⟨((j : Nat) : Int), false⟩ : Edg) ++ []) rfl un81 ty83 z83 rfl rfl rfl (by decide) rfl (by decide)⟩⟩,
           trivial⟩) ⟨.inr ⟨by kernel_rfl, rfl⟩, .inr ⟨by kernel_rfl, rfl⟩, .inr ⟨by kernel_rfl, rfl⟩, .inr ⟨by kernel_rfl, rfl⟩, .inr ⟨by kernel_rfl, rfl⟩, .inr ⟨by kernel_rfl, rfl⟩, .inr ⟨by kernel_rfl, rfl⟩, .inr ⟨by kernel_rfl, rfl⟩, .inr ⟨by kernel_rfl, rfl⟩, .inr ⟨by kernel_rfl, rfl⟩, .inr ⟨by kernel_rfl, rfl⟩, .inr ⟨by kernel_rfl, rfl⟩, .inl ⟨0, by decide, rfl, rfl⟩, .inl ⟨1, by decide, rfl, rfl⟩, .inl ⟨2, by decide, rfl, rfl⟩, .inl ⟨3, by decide, rfl, rfl⟩, .inl ⟨4, by decide, rfl, rfl⟩, .inl ⟨5, by decide, rfl, rfl⟩, .inl ⟨6, by decide, rfl, rfl⟩, .inl ⟨7, by decide, rfl, rfl⟩, .inl ⟨8, by decide, rfl, rfl⟩, .inl ⟨9, by decide, rfl, rfl⟩, .inl ⟨10, by decide, rfl, rfl⟩, .inl ⟨11, by decide, rfl, rfl⟩, .inl ⟨12, by decide, rfl, rfl⟩, .inl ⟨13, by decide, rfl, rfl⟩, .inl ⟨14, by decide, rfl, rfl⟩, trivial⟩ ?_
          rintro _ hq ⟨own2, rfl, hT, hleq, hsame⟩
          refine qp (v := .ptr bo fr) (PO_ixj rfl un60 ty81 rfl rfl (by omega)) ?_
          refine AL_storeC (b := bo) (off := fr) (cs := fo4.map (Gs.cell eEdg)) (vs := [.sl own2 2 ((p.l ++ [(⟨((j : Nat) : Int), false⟩ : Edg)]).map eEdg)]) (v := .sl own2 2 ((p.l ++ [(⟨((j : Nat) : Int), false⟩ : Edg)]).map eEdg)) rfl rfl rfl rfl ty81 rfl rfl (hsame.row hfoD.row) rfl rfl (by rw [List.length_map]; omega) ?_
          have hfoE := hfoD.app (acc := p.l ++ [(⟨((j : Nat) : Int), false⟩ : Edg)]) (by omega) hsame hT
          have hleE := Heap.le_upd hleq hbo (some (.row (setCells (fo4.map (Gs.cell eEdg)) fr [.sl own2 2 ((p.l ++ [(⟨((j : Nat) : Int), false⟩ : Edg)]).map eEdg)])))
          have hrwE := (Heap.upd_other hq hgo (some (.row (setCells (fo4.map (Gs.cell eEdg)) fr [.sl own2 2 ((p.l ++ [(⟨((j : Nat) : Int), false⟩ : Edg)]).map eEdg)])))).trans (hsame.row hrwD)
          have hmpE := (Heap.upd_other hq hmo (some (.row (setCells (fo4.map (Gs.cell eEdg)) fr [.sl own2 2 ((p.l ++ [(⟨((j : Nat) : Int), false⟩ : Edg)]).map eEdg)])))).trans (hsame.map hmpD)
          generalize hq.upd bo (some (.row (setCells (fo4.map (Gs.cell eEdg)) fr [.sl own2 2 ((p.l ++ [(⟨((j : Nat) : Int), false⟩ : Edg)]).map eEdg)]))) = hp5 at hfoE hleE hrwE hmpE ⊢
          have hlnE : (fo4.set fr ⟨own2, 2, p.l ++ [(⟨((j : Nat) : Int), false⟩ : Edg)]⟩).length = (predF l []).length := by rw [List.length_set]; exact hlnD
          have hbd5 : ∀ p_ ∈ fo4.set fr ⟨own2, 2, p.l ++ [(⟨((j : Nat) : Int), false⟩ : Edg)]⟩, p_.l.length ≤ 1048576 * (c + k) + j + 1 := fun p_ hp => by
           rcases List.mem_or_eq_of_mem_set hp with hp | rfl
           ·have := hbd4 p_ hp; omega
           ·simp only [List.length_append, List.length_singleton]; omega
          have hS5 : outF (predF l []) l (List.replicate (predF l []).length []) = outF (predF l []) (l.drop (i + 1)) (addE ((fo4.set fr ⟨own2, 2, p.l ++ [(⟨((j : Nat) : Int), false⟩ : Edg)]⟩).map Gs.l) fr ((((List.range (predF l []).length).drop (j + 1)).map (fun (k : Nat) => (⟨k, false⟩ : Edg))) ++ edgesL (predF l []) (r.body.drop (k + 1)))) := by
           rw [List.map_set]
           have hge : (fo4.map Gs.l).getD fr [] = p.l := by rw [List.getD_eq_getElem?_getD, List.getElem?_map, hp_]; rfl
           rw [hS4, addE_cons (by rw [List.length_map]; omega), hge]
          generalize fo4.set fr ⟨own2, 2, p.l ++ [(⟨((j : Nat) : Int), false⟩ : Edg)]⟩ = fo5 at hfoE hlnE hbd5 hS5
          refine AL_keep [(158,_),(102,_),(81,_),(2,_),(3,_),(79,_),(80,_),(11,_),(100,_),(101,_),(157,_),(15,_)] ⟨rfl,rfl,rfl,rfl,rfl,rfl,rfl,rfl,rfl,rfl,rfl,rfl,trivial⟩ ?_
          refine AL_nil (AW_region rfl ?_)
          refine qp (v := vn (j + 1)) (PO_inc rfl rfl rfl (by first | omega | simp_all; omega)) ?_
          refine qm ?_
          refine AL_keep [(158,_),(102,_),(81,_),(2,_),(3,_),(79,_),(80,_),(11,_),(100,_),(101,_),(157,_),(15,_)] ⟨rfl,rfl,rfl,rfl,rfl,rfl,rfl,rfl,rfl,rfl,rfl,rfl,trivial⟩ ?_
          refine AL_nil ?_
          exact ⟨(j + 1, fo5, hp5), ⟨by omega, hS5, fun p hp => by have := hbd5 p hp; omega, hleE, hrwE, hmpE, hfoE, hlnE⟩, by simp only []; omega, ⟨rfl, ⟨rfl, rfl, rfl, rfl, rfl, rfl, rfl, rfl, rfl, rfl, rfl, trivial⟩, rfl, rfl, rfl⟩⟩
         ·replace hc27 := of_decide_eq_false hc27
          rw [drop_end (l := List.range (predF l []).length) (i := j) (by rw [List.length_range]; omega), List.map_nil, List.nil_append] at hS4
          refine AW_exit ?_
          exact ⟨(fo4, hp4), ⟨hS4, fun p hp => by have := hbd4 p hp; omega, hleD, hrwD, hmpD, hfoD, hlnD⟩, ⟨rfl, ⟨rfl, rfl, rfl, rfl, rfl, rfl, rfl, rfl, rfl, trivial⟩, rfl, rfl, rfl⟩⟩
        ·replace hc25 := of_decide_eq_false hc25
         rw [if_neg hc25] at hS2
         refine AW_seq ?_
         refine AW_draw 12 [.ptr bg 0, .ptr bg 0, .ptr bg (0 + 1), .mp bm, .ip (List.drop 1 (eSlot x.pat.b)), .agg (eTerm x.pat.b.term), .tup [.lit (.int .i64 (lookI x.pat.b.term (predF l []))), .lit (.bool (lookB x.pat.b.term (predF l [])))], .tup [.lit (.int .i64 (lookI x.pat.b.term (predF l []))), .lit (.bool (lookB x.pat.b.term (predF l [])))], .lit (.int .i64 (lookI x.pat.b.term (predF l []))), .lit (.bool (lookB x.pat.b.term (predF l []))), .lit (.int .i64 (lookI x.pat.b.term (predF l []))), .lit (.bool (lookB x.pat.b.term (predF l [])))] [(102, .lit (.int .i64 ((k : Nat) : Int))), (81, .lit (.int .i64 ((i : Nat) : Int))), (2, .lit (.pointer none)), (3, .ptr bg 0), (79, .sl .any 13 (l.map eRule)), (80, .lit (.int .i64 (l.length : Int))), (11, .lit (.int .i64 ((fr : Nat) : Int))), (100, .sl .any 21 (r.body.map eLit)), (101, .lit (.int .i64 (r.body.length : Int))), (13, .ip (eLit x)), (14, .ip (eSlot x.pat.b)), (16, .lit (.int .i64 (lookI x.pat.b.term (predF l [])))), (17, .lit (.bool (lookB x.pat.b.term (predF l []))))] rfl hmixed (by kernel_rfl) rfl (by kernel_rfl) ⟨
          ⟨[(3, .ptr bg 0)], ⟨.inr ⟨by kernel_rfl, rfl⟩, trivial⟩, .inl ⟨rfl, PO_move rfl rfl⟩⟩,
          ⟨[(110, .ptr bg 0)], ⟨.inl ⟨0, by kernel_rfl, rfl, rfl⟩, trivial⟩, .inl ⟨rfl, PO_nilCheck_ptr rfl rfl⟩⟩,
          ⟨[(111, .ptr bg 0)], ⟨.inl ⟨1, by kernel_rfl, rfl, rfl⟩, trivial⟩, .inl ⟨rfl, PO_fieldAddr_row rfl f62_1 rfl⟩⟩,
          ⟨[(112, .ptr bg (0 + 1))], ⟨.inl ⟨2, by kernel_rfl, rfl, rfl⟩, trivial⟩, .inl ⟨rfl, PO_load_row rfl ty59 rfl hrwB rfl⟩⟩,
          ⟨[(14, .ip (eSlot x.pat.b))], ⟨.inr ⟨by kernel_rfl, rfl⟩, trivial⟩, .inl ⟨rfl, PO_fieldAddr rfl f41_1 rfl⟩⟩,
          ⟨[(114, .ip (List.drop 1 (eSlot x.pat.b)))], ⟨.inl ⟨4, by kernel_rfl, rfl, rfl⟩, trivial⟩, .inl ⟨rfl, PO_load rfl ty25 rfl rfl⟩⟩,
          ⟨[(113, .mp bm), (115, .agg (eTerm x.pat.b.term))], ⟨.inl ⟨3, by kernel_rfl, rfl, rfl⟩, .inl ⟨5, by kernel_rfl, rfl, rfl⟩, trivial⟩, .inl ⟨rfl, PO_lookT rfl rfl hmpB rfl⟩⟩,
          ⟨[(116, .tup [.lit (.int .i64 (lookI x.pat.b.term (predF l []))), .lit (.bool (lookB x.pat.b.term (predF l [])))])], ⟨.inl ⟨6, by kernel_rfl, rfl, rfl⟩, trivial⟩, .inl ⟨rfl, PO_move rfl rfl⟩⟩,
          ⟨[(109, .tup [.lit (.int .i64 (lookI x.pat.b.term (predF l []))), .lit (.bool (lookB x.pat.b.term (predF l [])))])], ⟨.inl ⟨7, by kernel_rfl, rfl, rfl⟩, trivial⟩, .inl ⟨rfl, PO_extract rfl rfl rfl⟩⟩,
          ⟨[(109, .tup [.lit (.int .i64 (lookI x.pat.b.term (predF l []))), .lit (.bool (lookB x.pat.b.term (predF l [])))])], ⟨.inl ⟨7, by kernel_rfl, rfl, rfl⟩, trivial⟩, .inl ⟨rfl, PO_extract rfl rfl rfl⟩⟩,
          ⟨[(117, .lit (.int .i64 (lookI x.pat.b.term (predF l []))))], ⟨.inl ⟨8, by kernel_rfl, rfl, rfl⟩, trivial⟩, .inl ⟨rfl, PO_assign rfl rfl⟩⟩,
          ⟨[(118, .lit (.bool (lookB x.pat.b.term (predF l []))))], ⟨.inl ⟨9, by kernel_rfl, rfl, rfl⟩, trivial⟩, .inl ⟨rfl, PO_assign rfl rfl⟩⟩,
          trivial⟩ ⟨.inr ⟨by kernel_rfl, rfl⟩, .inr ⟨by kernel_rfl, rfl⟩, .inr ⟨by kernel_rfl, rfl⟩, .inr ⟨by kernel_rfl, rfl⟩, .inr ⟨by kernel_rfl, rfl⟩, .inr ⟨by kernel_rfl, rfl⟩, .inr ⟨by kernel_rfl, rfl⟩, .inr ⟨by kernel_rfl, rfl⟩, .inr ⟨by kernel_rfl, rfl⟩, .inr ⟨by kernel_rfl, rfl⟩, .inr ⟨by kernel_rfl, rfl⟩, .inl ⟨10, by decide, rfl, rfl⟩, .inl ⟨11, by decide, rfl, rfl⟩, trivial⟩ ?_
         refine AL_nil (AW_seq (AW_region rfl ?_))
         refine qm ?_
         refine AL_nil ?_
         refine AW_cond _ rfl (fun hc22 => ?_) (fun hc22 => ?_)
         ·rw [if_pos hc22, List.cons_append, List.nil_append] at hS2
          obtain ⟨p, hp_, -, hpm⟩ := drop_at (l := fo2) (i := fr) (by omega)
          have hpl := hbd2 p hpm
          refine AW_draw1 18 [.ptr bg 0, .ptr bg 0, .ptr bg (0 + 2), .ms bo 0 1 ((predF l []).length) ((predF l []).length), .lit (.int .i64 ((fr : Nat) : Int)), .ptr bg 0, .ptr bg 0, .ptr bg (0 + 2), .ms bo 0 1 ((predF l []).length) ((predF l []).length), .lit (.int .i64 ((fr : Nat) : Int)), .ptr bo fr, .sl p.own p.S (p.l.map eEdg), .lit (.int .i64 (lookI x.pat.b.term (predF l []))), .ip (List.drop 0 (eLit x)), .lit (.int .i64 x.kind), .lit (.bool (decide ((x.kind : Int) = 2))), .agg (eEdg (⟨(lookI x.pat.b.term (predF l [])), decide ((x.kind : Int) = 2)⟩ : Edg)), .sl .full 2 ([(⟨(lookI x.pat.b.term (predF l [])), decide ((x.kind : Int) = 2)⟩ : Edg)].map eEdg)] [(102, .lit (.int .i64 ((k : Nat) : Int))), (81, .lit (.int .i64 ((i : Nat) : Int))), (2, .lit (.pointer none)), (3, .ptr bg 0), (79, .sl .any 13 (l.map eRule)), (80, .lit (.int .i64 (l.length : Int))), (11, .lit (.int .i64 ((fr : Nat) : Int))), (100, .sl .any 21 (r.body.map eLit)), (101, .lit (.int .i64 (r.body.length : Int))), (13, .ip (eLit x)), (14, .ip (eSlot x.pat.b)), (16, .lit (.int .i64 (lookI x.pat.b.term (predF l [])))), (17, .lit (.bool (lookB x.pat.b.term (predF l [])))), (120, .ptr bg 0), (121, .ptr bg 0), (122, .ptr bg (0 + 2)), (123, .ms bo 0 1 ((predF l []).length) ((predF l []).length)), (124, .lit (.int .i64 ((fr : Nat) : Int))), (125, .ptr bg 0), (126, .ptr bg 0), (127, .ptr bg (0 + 2)), (128, .ms bo 0 1 ((predF l []).length) ((predF l []).length)), (129, .lit (.int .i64 ((fr : Nat) : Int))), (130, .ptr bo fr), (131, .sl p.own p.S (p.l.map eEdg)), (132, .lit (.int .i64 (lookI x.pat.b.term (predF l [])))), (133, .ip (List.drop 0 (eLit x))), (134, .lit (.int .i64 x.kind)), (135, .lit (.bool (decide ((x.kind : Int) = 2)))), (136, .agg (eEdg (⟨(lookI x.pat.b.term (predF l [])), decide ((x.kind : Int) = 2)⟩ : Edg))), (137, .sl .full 2 ([(⟨(lookI x.pat.b.term (predF l [])), decide ((x.kind : Int) = 2)⟩ : Edg)].map eEdg))] (fun hh => hh bg = (some (.row [q.cell eTerm, .mp bm, .ms bo 0 1 (predF l []).length (predF l []).length])) ∧ hh bo = some (.row (fo2.map (Gs.cell eEdg)))) _ (tmx := [(131, .sl p.own p.S (p.l.map eEdg)), (137, .sl .full 2 ([(⟨(lookI x.pat.b.term (predF l [])), decide ((x.kind : Int) = 2)⟩ : Edg)].map eEdg))]) rfl hmixed (by kernel_rfl) rfl rfl rfl rfl rfl ⟨hrwB, hfoB.row⟩ ⟨.inl ⟨11, by kernel_rfl, rfl, rfl⟩, .inl ⟨17, by kernel_rfl, rfl, rfl⟩, trivial⟩ (MO_appT (f := eEdg) (acc := p.l) (ys := [(⟨lookI x.pat.b.term (predF l []), decide (x.kind = 2)⟩ : Edg)]) (os := fo2.map Gs.ow) (i := fr) rfl un81 un81 ty83 z83 rfl by83 rfl rfl (hfoB.sz p hpm) (by simp) hfoB.toks (by rw [List.getElem?_map, hp_]; rfl) hleB (by simp only [List.length_singleton]; omega) (by simp only [List.length_singleton]; omega)) (fun _ _ ⟨_, _, _, _, hs⟩ => ⟨hs.row hrwB, hs.row hfoB.row⟩) rfl (by kernel_rfl) (fun hh hK => ⟨
           ⟨[(3, .ptr bg 0)], ⟨.inr ⟨by kernel_rfl, rfl⟩, trivial⟩, .inl ⟨rfl, PO_move rfl rfl⟩⟩,
           ⟨[(120, .ptr bg 0)], ⟨.inl ⟨0, by kernel_rfl, rfl, rfl⟩, trivial⟩, .inl ⟨rfl, PO_nilCheck_ptr rfl rfl⟩⟩,
           ⟨[(121, .ptr bg 0)], ⟨.inl ⟨1, by kernel_rfl, rfl, rfl⟩, trivial⟩, .inl ⟨rfl, PO_fieldAddr_row rfl f62_2 rfl⟩⟩,
           ⟨[(122, .ptr bg (0 + 2))], ⟨.inl ⟨2, by kernel_rfl, rfl, rfl⟩, trivial⟩, .inl ⟨rfl, PO_load_row rfl ty60 rfl hK.1 rfl⟩⟩,
           ⟨[(11, .lit (.int .i64 ((fr : Nat) : Int)))], ⟨.inr ⟨by kernel_rfl, rfl⟩, trivial⟩, .inl ⟨rfl, PO_move rfl rfl⟩⟩,
           ⟨[(3, .ptr bg 0)], ⟨.inr ⟨by kernel_rfl, rfl⟩, trivial⟩, .inl ⟨rfl, PO_move rfl rfl⟩⟩,
           ⟨[(125, .ptr bg 0)], ⟨.inl ⟨5, by kernel_rfl, rfl, rfl⟩, trivial⟩, .inl ⟨rfl, PO_nilCheck_ptr rfl rfl⟩⟩,
           ⟨[(126, .ptr bg 0)], ⟨.inl ⟨6, by kernel_rfl, rfl, rfl⟩, trivial⟩, .inl ⟨rfl, PO_fieldAddr_row rfl f62_2 rfl⟩⟩,
           ⟨[(127, .ptr bg (0 + 2))], ⟨.inl ⟨7, by kernel_rfl, rfl, rfl⟩, trivial⟩, .inl ⟨rfl, PO_load_row rfl ty60 rfl hK.1 rfl⟩⟩,
           ⟨[(11, .lit (.int .i64 ((fr : Nat) : Int)))], ⟨.inr ⟨by kernel_rfl, rfl⟩, trivial⟩, .inl ⟨rfl, PO_move rfl rfl⟩⟩,
           ⟨[(128, .ms bo 0 1 ((predF l []).length) ((predF l []).length)), (129, .lit (.int .i64 ((fr : Nat) : Int)))], ⟨.inl ⟨8, by kernel_rfl, rfl, rfl⟩, .inl ⟨9, by kernel_rfl, rfl, rfl⟩, trivial⟩, .inl ⟨rfl, PO_ixj rfl un60 ty81 rfl rfl (by omega)⟩⟩,
           ⟨[(130, .ptr bo fr)], ⟨.inl ⟨10, by kernel_rfl, rfl, rfl⟩, trivial⟩, .inl ⟨rfl, PO_load_row rfl ty81 rfl hK.2 (gs_load hp_ rfl)⟩⟩,
           ⟨[(16, .lit (.int .i64 (lookI x.pat.b.term (predF l []))))], ⟨.inr ⟨by kernel_rfl, rfl⟩, trivial⟩, .inl ⟨rfl, PO_move rfl rfl⟩⟩,
           ⟨[(13, .ip (eLit x))], ⟨.inr ⟨by kernel_rfl, rfl⟩, trivial⟩, .inl ⟨rfl, PO_fieldAddr rfl f68_0 rfl⟩⟩,
           ⟨[(133, .ip (List.drop 0 (eLit x)))], ⟨.inl ⟨13, by kernel_rfl, rfl, rfl⟩, trivial⟩, .inl ⟨rfl, PO_load rfl ty66 rfl rfl⟩⟩,
           ⟨[(134, .lit (.int .i64 x.kind))], ⟨.inl ⟨14, by kernel_rfl, rfl, rfl⟩, trivial⟩, .inl ⟨rfl, PO_int rfl rfl rfl rfl trivial⟩⟩,
           ⟨[(132, .lit (.int .i64 (lookI x.pat.b.term (predF l [])))), (135, .lit (.bool (decide ((x.kind : Int) = 2))))], ⟨.inl ⟨12, by kernel_rfl, rfl, rfl⟩, .inl ⟨15, by kernel_rfl, rfl, rfl⟩, trivial⟩, .inl ⟨rfl, PO_build rfl z83 pl83 rfl rfl⟩⟩,
           ⟨[(136, .agg (eEdg (⟨(lookI x.pat.b.term (predF l [])), decide ((x.kind : Int) = 2)⟩ : Edg)))], ⟨.inl ⟨16, by kernel_rfl, rfl, rfl⟩, trivial⟩, .inl ⟨rfl, PO_buildSlice (n := 1) (S := 2) (rs := eEdg (⟨(lookI x.pat.b.term (predF l [])), decide ((x.kind : Int) = 2)⟩ : Edg) ++ []) rfl un81 ty83 z83 rfl rfl rfl (by decide) rfl (by decide)⟩⟩,
           trivial⟩) ⟨.inr ⟨by kernel_rfl, rfl⟩, .inr ⟨by kernel_rfl, rfl⟩, .inr ⟨by kernel_rfl, rfl⟩, .inr ⟨by kernel_rfl, rfl⟩, .inr ⟨by kernel_rfl, rfl⟩, .inr ⟨by kernel_rfl, rfl⟩, .inr ⟨by kernel_rfl, rfl⟩, .inr ⟨by kernel_rfl, rfl⟩, .inr ⟨by kernel_rfl, rfl⟩, .inr ⟨by kernel_rfl, rfl⟩, .inr ⟨by kernel_rfl, rfl⟩, .inr ⟨by kernel_rfl, rfl⟩, .inr ⟨by kernel_rfl, rfl⟩, .inl ⟨0, by decide, rfl, rfl⟩, .inl ⟨1, by decide, rfl, rfl⟩, .inl ⟨2, by decide, rfl, rfl⟩, .inl ⟨3, by decide, rfl, rfl⟩, .inl ⟨4, by decide, rfl, rfl⟩, .inl ⟨5, by decide, rfl, rfl⟩, .inl ⟨6, by decide, rfl, rfl⟩, .inl ⟨7, by decide, rfl, rfl⟩, .inl ⟨8, by decide, rfl, rfl⟩, .inl ⟨9, by decide, rfl, rfl⟩, .inl ⟨10, by decide, rfl, rfl⟩, .inl ⟨11, by decide, rfl, rfl⟩, .inl ⟨12, by decide, rfl, rfl⟩, .inl ⟨13, by decide, rfl, rfl⟩, .inl ⟨14, by decide, rfl, rfl⟩, .inl ⟨15, by decide, rfl, rfl⟩, .inl ⟨16, by decide, rfl, rfl⟩, .inl ⟨17, by decide, rfl, rfl⟩, trivial⟩ ?_
          rintro _ hq ⟨own2, rfl, hT, hleq, hsame⟩
          refine qp (v := .ptr bo fr) (PO_ixj rfl un60 ty81 rfl rfl (by omega)) ?_
          refine AL_storeC (b := bo) (off := fr) (cs := fo2.map (Gs.cell eEdg)) (vs := [.sl own2 2 ((p.l ++ [(⟨lookI x.pat.b.term (predF l []), decide (x.kind = 2)⟩ : Edg)]).map eEdg)]) (v := .sl own2 2 ((p.l ++ [(⟨lookI x.pat.b.term (predF l []), decide (x.kind = 2)⟩ : Edg)]).map eEdg)) rfl rfl rfl rfl ty81 rfl rfl (hsame.row hfoB.row) rfl rfl (by rw [List.length_map]; omega) ?_
          have hfoE := hfoB.app (acc := p.l ++ [(⟨lookI x.pat.b.term (predF l []), decide (x.kind = 2)⟩ : Edg)]) (by omega) hsame hT
          have hleE := Heap.le_upd hleq hbo (some (.row (setCells (fo2.map (Gs.cell eEdg)) fr [.sl own2 2 ((p.l ++ [(⟨lookI x.pat.b.term (predF l []), decide (x.kind = 2)⟩ : Edg)]).map eEdg)])))
          have hrwE := (Heap.upd_other hq hgo (some (.row (setCells (fo2.map (Gs.cell eEdg)) fr [.sl own2 2 ((p.l ++ [(⟨lookI x.pat.b.term (predF l []), decide (x.kind = 2)⟩ : Edg)]).map eEdg)])))).trans (hsame.row hrwB)
          have hmpE := (Heap.upd_other hq hmo (some (.row (setCells (fo2.map (Gs.cell eEdg)) fr [.sl own2 2 ((p.l ++ [(⟨lookI x.pat.b.term (predF l []), decide (x.kind = 2)⟩ : Edg)]).map eEdg)])))).trans (hsame.map hmpB)
          generalize hq.upd bo (some (.row (setCells (fo2.map (Gs.cell eEdg)) fr [.sl own2 2 ((p.l ++ [(⟨lookI x.pat.b.term (predF l []), decide (x.kind = 2)⟩ : Edg)]).map eEdg)]))) = hp5 at hfoE hleE hrwE hmpE ⊢
          have hlnE : (fo2.set fr ⟨own2, 2, p.l ++ [(⟨lookI x.pat.b.term (predF l []), decide (x.kind = 2)⟩ : Edg)]⟩).length = (predF l []).length := by rw [List.length_set]; exact hlnB
          have hbd5 : ∀ p_ ∈ fo2.set fr ⟨own2, 2, p.l ++ [(⟨lookI x.pat.b.term (predF l []), decide (x.kind = 2)⟩ : Edg)]⟩, p_.l.length ≤ 1048576 * (c + k) + 1 := fun p_ hp => by
           rcases List.mem_or_eq_of_mem_set hp with hp | rfl
           ·have := hbd2 p_ hp; omega
           ·simp only [List.length_append, List.length_singleton]; omega
          have hS5 : outF (predF l []) l (List.replicate (predF l []).length []) = outF (predF l []) (l.drop (i + 1)) (addE ((fo2.set fr ⟨own2, 2, p.l ++ [(⟨lookI x.pat.b.term (predF l []), decide (x.kind = 2)⟩ : Edg)]⟩).map Gs.l) fr (edgesL (predF l []) (r.body.drop (k + 1)))) := by
           rw [List.map_set]
           have hge : (fo2.map Gs.l).getD fr [] = p.l := by rw [List.getD_eq_getElem?_getD, List.getElem?_map, hp_]; rfl
           rw [hS2, addE_cons (by rw [List.length_map]; omega), hge]
          generalize fo2.set fr ⟨own2, 2, p.l ++ [(⟨lookI x.pat.b.term (predF l []), decide (x.kind = 2)⟩ : Edg)]⟩ = fo5 at hfoE hlnE hbd5 hS5
          refine AL_keep [(102,_),(81,_),(2,_),(3,_),(79,_),(80,_),(11,_),(100,_),(101,_),(13,_),(14,_),(16,_),(17,_)] ⟨rfl,rfl,rfl,rfl,rfl,rfl,rfl,rfl,rfl,rfl,rfl,rfl,rfl,trivial⟩ ?_
          refine AL_nil ?_
          exact ⟨(fo5, hp5), ⟨hS5, fun p hp => by have := hbd5 p hp; omega, hleE, hrwE, hmpE, hfoE, hlnE⟩, ⟨rfl, ⟨rfl, rfl, rfl, rfl, rfl, rfl, rfl, rfl, rfl, trivial⟩, rfl, rfl, rfl⟩⟩
         ·rw [if_neg (by rw [hc22]; simp), List.nil_append] at hS2
          refine AW_skip ?_
          exact ⟨(fo2, hp2), ⟨hS2, fun p hp => by have := hbd2 p hp; omega, hleB, hrwB, hmpB, hfoB, hlnB⟩, ⟨rfl, ⟨rfl, rfl, rfl, rfl, rfl, rfl, rfl, rfl, rfl, trivial⟩, rfl, rfl, rfl⟩⟩
     ·rintro ⟨fo3, hp3⟩ ⟨hS3, hbd3, hleC, hrwC, hmpC, hfoC, hlnC⟩
      refine AW_region rfl ?_
      refine qp (v := vn (k + 1)) (PO_inc rfl rfl rfl (by first | omega | simp_all; omega)) ?_
      refine qm ?_
      refine AL_keep [(102,_),(81,_),(2,_),(3,_),(79,_),(80,_),(11,_),(100,_),(101,_)] ⟨rfl,rfl,rfl,rfl,rfl,rfl,rfl,rfl,rfl,trivial⟩ ?_
      refine AL_nil ?_
      exact ⟨(k + 1, fo3, hp3), ⟨by omega, hS3, fun p hp => by have := hbd3 p hp; omega, hleC, hrwC, hmpC, hfoC, hlnC⟩, by simp only []; omega, ⟨rfl, ⟨rfl, rfl, rfl, rfl, rfl, rfl, rfl, rfl, rfl, trivial⟩, rfl, rfl, rfl⟩⟩
    ·replace hc18 := of_decide_eq_false hc18
     rw [drop_end (l := r.body) (i := k) (by omega), edgesL, addE_nil (by rw [List.length_map]; omega)] at hS2
     refine AW_exit ?_
     refine AW_region rfl ?_
     refine qp (v := vn (i + 1)) (PO_inc rfl rfl rfl (by first | omega | simp_all; omega)) ?_
     refine qm ?_
     refine AL_keep [(102,_),(81,_),(2,_),(3,_),(79,_),(80,_),(11,_),(100,_),(101,_)] ⟨rfl,rfl,rfl,rfl,rfl,rfl,rfl,rfl,rfl,trivial⟩ ?_
     refine AL_nil ?_
     exact ⟨(i + 1, c + r.body.length, fo2, hp2), ⟨by omega, by omega, hS2, fun p hp => by have := hbd2 p hp; omega, hleB, hrwB, hmpB, hfoB, hlnB⟩, by simp only []; omega, ⟨rfl, ⟨rfl, rfl, rfl, rfl, rfl, trivial⟩, rfl, rfl, rfl⟩⟩
  ·replace hc13 := of_decide_eq_false hc13
   rw [drop_end (l := l) (i := i) (by omega), outF] at hS
   refine AW_exit ?_
   refine AW_seq (AW_region rfl ?_)
   refine qm ?_
   refine qa ?_
   refine AL_keep [(81,_),(2,_),(3,_),(79,_),(80,_)] ⟨rfl,rfl,rfl,rfl,rfl,trivial⟩ ?_
   refine AL_nil ?_
   refine AW_graph (k := 2) (S1 := 3) (S := 2) rfl hrwA hmpA hfoA.row hqS hfoA.sz hlnA hgo ?_
   refine AW_ret ?_
   exact ret_le2 (.inl rfl) rfl (by rw [← hnm, eGraph, seeG, hS]; simp only [Graph.at_, outF, List.map_map]; rfl) (Heap.le_upd (Heap.le_upd (Heap.le_upd hleA hbm _) hbo _) hbg _)
end Go.AM.Tryd
end
section
set_option linter.unusedVariables false
set_option linter.unusedSimpArgs false
namespace Go.AM.Tryd
open Go Go.AM Go.AM.D
theorem edgeL_ok {names : List Term} {x : Lt} (hn : names.length ≤ 1048576) : (edgeL names x).length ≤ 1048576 ∧ ∀ e ∈ edgeL names x, 0 ≤ e.to ∧ e.to < names.length := by
  rw [edgeL]
  split
  · simp
  · split
    · refine ⟨by simpa using hn, fun e he => ?_⟩
      simp only [List.mem_map, List.mem_range] at he
      obtain ⟨k, hk, rfl⟩ := he
      simp only []
      omega
    · split
      · rename_i h
        refine ⟨by simp, fun e he => ?_⟩
        rw [List.mem_singleton] at he
        subst he
        simp only [lookB, decide_eq_true_eq] at h
        have := lookI_lt (t := x.pat.b.term) (names := names) (by omega)
        simp only []
        omega
      · simp
theorem edgesL_ok {names : List Term} (hn : names.length ≤ 1048576) : ∀ b : List Lt, (edgesL names b).length ≤ 1048576 * b.length ∧ ∀ e ∈ edgesL names b, 0 ≤ e.to ∧ e.to < names.length
  | [] => by simp [edgesL]
  | x :: b => by
    have h1 := edgeL_ok (x := x) hn
    have h2 := edgesL_ok hn b
    refine ⟨by simp only [edgesL, List.length_append, List.length_cons]; omega, fun e he => ?_⟩
    rw [edgesL, List.mem_append] at he
    exact he.elim (h1.2 e) (h2.2 e)
theorem outF_ok {names : List Term} (hn : names.length ≤ 1048576) : ∀ (l : List Rule) (o : List (List Edg)) (B : Nat), (∀ es ∈ o, es.length ≤ B ∧ ∀ e ∈ es, 0 ≤ e.to ∧ e.to < names.length) → (outF names l o).length = o.length ∧ ∀ es ∈ outF names l o, es.length ≤ B + 1048576 * bods l ∧ ∀ e ∈ es, 0 ≤ e.to ∧ e.to < names.length
  | [], o, B, h => ⟨rfl, fun es he => ⟨by have := (h es he).1; simp only [bods]; omega, (h es he).2⟩⟩
  | r :: l, o, B, h => by
    rw [outF]
    split
    · have := outF_ok hn l o B h
      refine ⟨this.1, fun es he => ⟨?_, (this.2 es he).2⟩⟩
      have := (this.2 es he).1
      simp only [bods]; omega
    · have he := edgesL_ok hn r.body
      have := outF_ok hn l (addE o (lookI r.head.b.term names).toNat (edgesL names r.body)) (B + 1048576 * r.body.length) (fun es hes => by
        rw [addE] at hes
        rcases List.mem_or_eq_of_mem_set hes with hes | rfl
        · have := h es hes; exact ⟨by omega, this.2⟩
        · have hg : (o.getD (lookI r.head.b.term names).toNat []).length ≤ B ∧ ∀ e ∈ o.getD (lookI r.head.b.term names).toNat [], 0 ≤ e.to ∧ e.to < names.length := by
            rw [List.getD_eq_getElem?_getD]
            cases hq : o[(lookI r.head.b.term names).toNat]? with
            | none => simp
            | some es => exact h es (List.mem_of_getElem? hq)
          refine ⟨by rw [List.length_append]; omega, fun e hm => ?_⟩
          exact (List.mem_append.1 hm).elim (hg.2 e) (he.2 e))
      refine ⟨by rw [this.1, addE_len], fun es hes => ⟨?_, (this.2 es hes).2⟩⟩
      have := (this.2 es hes).1
      simp only [bods]; omega
theorem okG_see {l : List Rule} (hl : l.length ≤ 1048576) (hb : bods l ≤ 1048576) : okG (seeG l) := by
  have h1 := predF_len l []
  simp only [List.length_nil, Nat.zero_add] at h1
  have h2 := outF_ok (names := predF l []) (by omega) l (List.replicate (predF l []).length []) 0 (fun es he => by rw [List.eq_of_mem_replicate he]; simp)
  refine ⟨by simp only [seeG]; omega, by simp only [seeG]; rw [h2.1, List.length_replicate], fun es he => ?_⟩
  have := h2.2 es he
  exact ⟨by omega, this.2⟩
noncomputable def findN (l : List Rule) : List Int × Int :=
  if progU l ≠ 0 then ([], progU l) else if negF l = false then (List.replicate (predF l []).length 1, 0) else ofV (numV (clP (seeG l).out) (predF l []).length)
noncomputable def gptr (l : List Rule) : AV := if (findN l).2 = 0 then .ip (eGraph (seeG l)) else .lit (.pointer none)
theorem numG_see {l : List Rule} : numG (seeG l) = ofB (numV (clP (seeG l).out) (predF l []).length) := rfl
end Go.AM.Tryd
end
section
set_option maxRecDepth 100000
set_option linter.unusedVariables false
set_option linter.unusedSimpArgs false
namespace Go.AM.Tryd
open Go Go.AM Go.AM.D
theorem find_ (l : List Rule) (hl : okRs l) (hbods : bods l ≤ 1048576) : PFn PR (.fn (.func 16) [] []) [.sl .any 13 (l.map eRule)] (.tup [(gptr l), .sl .any 1 (((findN l).1).map eI64), .lit (.int .i64 ((findN l).2))]) := by
 have hl1 := hl.1
 have hok := okG_see hl1 hbods
 have hPl := predF_len l []
 simp only [List.length_nil, Nat.zero_add] at hPl
 refine PFn_of Go.Proofs.Tryd.func16 rfl (by rfl) Go.Proofs.Tryd.ntmps16 rfl (by simp) fun h => ?_
 refine AW_seq (AW_region rfl ?_)
 refine qa (v := .lit (.pointer none)) ?_
 refine qp (v := .sl .nil 1 []) (PO_nil_assign rfl) ?_
 refine qa (v := vi 0) ?_
 refine AL_nil (AW_seq (AW_seq (AW_region rfl ?_)))
 refine qm ?_
 refine qp (v := .tup [.agg (eMode ⟨modeU l⟩), .lit (.int .i64 (progU l))]) (PO_call rfl rfl rfl (uprog_ _ (by assumption))) ?_
 refine qm ?_
 refine qp (v := .agg (eMode ⟨modeU l⟩)) (PO_extract rfl rfl rfl) ?_
 refine qp (v := vi (progU l)) (PO_extract rfl rfl rfl) ?_
 refine AL_als rfl rfl rfl rfl rfl rfl al72 rfl rfl rfl rfl rfl ?_
 refine qa ?_
 refine AL_keep [(0,_),(2,_),(3,_),(4,_),(6,_)] ⟨rfl,rfl,rfl,rfl,rfl,trivial⟩ ?_
 refine AL_nil (AW_seq (AW_region rfl ?_))
 refine qm ?_
 refine qp (v := vb (decide (((progU l) : Int) ≠ 0))) pI ?_
 refine AL_keep [(0,_),(2,_),(3,_),(4,_),(6,_),(18,_)] ⟨rfl,rfl,rfl,rfl,rfl,rfl,trivial⟩ ?_
 refine AL_nil ?_
 refine AW_cond _ rfl (fun hc2 => ?_) (fun hc2 => ?_)
 ·replace hc2 := of_decide_eq_true hc2
  have hw : findN l = ([], progU l) := by rw [findN, if_pos hc2]
  have hg : gptr l = .lit (.pointer none) := by rw [gptr, hw, if_neg hc2]
  refine AW_seq (AW_region rfl ?_)
  refine qm ?_
  refine qa (v := .lit (.pointer none)) ?_
  refine qp (v := .sl .nil 1 []) (PO_nil_assign rfl) ?_
  refine qa ?_
  refine AL_keep [(0,_),(2,_),(3,_),(4,_),(6,_)] ⟨rfl,rfl,rfl,rfl,rfl,trivial⟩ ?_
  refine AL_nil ?_
  refine AW_any (k := 3) rfl ?_
  refine AW_ret ?_
  exact ret_le2 (.inl rfl) rfl (by rw [hw, hg]; rfl) (.refl _)
 ·replace hc2 := of_decide_eq_false hc2
  have hw0 : findN l = if negF l = false then (List.replicate (predF l []).length 1, 0) else ofV (numV (clP (seeG l).out) (predF l []).length) := by rw [findN, if_neg hc2]
  refine AW_skip (AW_seq (AW_region rfl ?_))
  refine qm ?_
  refine qp (v := .ip (eGraph (seeG l))) (PO_call rfl rfl rfl (see_ _ (by assumption) (by assumption))) ?_
  refine qa ?_
  refine AL_keep [(0,_),(2,_),(3,_),(4,_),(6,_),(7,_)] ⟨rfl,rfl,rfl,rfl,rfl,rfl,trivial⟩ ?_
  refine AL_nil (AW_seq (AW_seq (AW_region rfl ?_)))
  refine qm ?_
  refine qp (v := vb (negF l)) (PO_call rfl rfl rfl (neg30_ _ (by assumption))) ?_
  refine qp (v := vb (!(negF l))) (PO_not (b := (negF l)) rfl rfl) ?_
  refine AL_keep [(0,_),(2,_),(3,_),(4,_),(6,_),(7,_),(24,_)] ⟨rfl,rfl,rfl,rfl,rfl,rfl,rfl,trivial⟩ ?_
  refine AL_nil ?_
  refine AW_cond _ rfl (fun hc5 => ?_) (fun hc5 => ?_)
  ·rw [if_pos (by simpa using hc5)] at hw0
   have hg : gptr l = .ip (eGraph (seeG l)) := by rw [gptr, hw0, if_pos rfl]
   refine AW_seq (AW_region rfl ?_)
   refine qm ?_
   refine qp (v := .ip (eGraph (seeG l))) (PO_nilCheck_ip rfl rfl) ?_
   refine qp (v := .ip (List.drop 0 (eGraph (seeG l)))) (PO_fieldAddr rfl f62_0 rfl) ?_
   refine qp (v := vT ((seeG l).names)) (PO_load rfl ty37 rfl rfl) ?_
   refine qp (v := vn ((predF l []).length)) (PO_lenM rfl un37 rfl) ?_
   refine AL_mkn rfl rfl rfl rfl un32 ty3 z3 by3 rfl rfl (by omega) (by omega) fun b hb => ?_
   refine qa ?_
   refine AL_keep [(0,_),(2,_),(3,_),(4,_),(6,_),(7,_),(8,_)] ⟨rfl,rfl,rfl,rfl,rfl,rfl,rfl,trivial⟩ ?_
   refine AL_nil (AW_seq (AW_seq (AW_region rfl ?_)))
   refine qm ?_
   refine qp (v := vi ((predF l []).length : Int)) (PO_len_ms rfl un32 rfl) ?_
   refine qm (v := vi 0) ?_
   refine AL_keep [(0,_),(2,_),(3,_),(4,_),(6,_),(7,_),(8,_),(32,_),(33,_)] ⟨rfl,rfl,rfl,rfl,rfl,rfl,rfl,rfl,rfl,trivial⟩ ?_
   refine AL_nil (AW_block ?_)
   refine AW_iter (fun (z : Nat) => [(33, .lit (.int .i64 ((z : Nat) : Int))), (0, .sl .any 13 (l.map eRule)), (2, .lit (.pointer none)), (3, .sl .nil 1 []), (4, .lit (.int .i64 0)), (7, .ip (eGraph (seeG l))), (8, .ms b 0 1 ((predF l []).length) ((predF l []).length)), (32, .lit (.int .i64 ((predF l []).length : Int)))]) (fun (z : Nat) => (h.upd b (some (.row (ints (List.replicate z (1 : Int) ++ List.replicate ((predF l []).length - z) 0)))))) (fun (z : Nat) => z ≤ (predF l []).length) (fun (z : Nat) => (predF l []).length - z) (0) ⟨rfl, rfl, rfl, rfl, rfl, rfl, rfl, rfl, trivial⟩ (by simp) (by omega) ?_
   intro z hIz
   have hrl : (List.replicate z (1 : Int) ++ List.replicate ((predF l []).length - z) 0).length = (predF l []).length := by simp only [List.length_append, List.length_replicate]; omega
   refine AW_seq (AW_region rfl ?_)
   refine qp (v := vb (decide ((((z : Nat) : Int) : Int) < ((predF l []).length : Int)))) pI ?_
   refine AL_nil (AW_seq ?_)
   refine AW_cond _ rfl (fun hc8 => ?_) (fun hc8 => ?_)
   ·replace hc8 := of_decide_eq_true hc8
    refine AW_skip (AW_seq (AW_block (AW_seq (AW_region rfl ?_))))
    refine qm ?_
    refine qa ?_
    refine AL_keep [(33,_),(0,_),(2,_),(3,_),(4,_),(7,_),(8,_),(32,_),(9,_)] ⟨rfl,rfl,rfl,rfl,rfl,rfl,rfl,rfl,rfl,trivial⟩ ?_
    refine AL_nil (AW_region rfl ?_)
    refine qm ?_
    refine qm ?_
    refine qp (v := .ptr b z) (PO_ixj rfl un32 ty3 rfl rfl (by first | omega | (simp only [List.length_set]; omega))) ?_
    refine AL_stn (ns := (List.replicate z (1 : Int) ++ List.replicate ((predF l []).length - z) 0)) (j := z) (v := 1) rfl rfl rfl ty3 rfl rfl (by first | omega | (simp only [List.length_set]; omega)) ?_
    refine AL_keep [(33,_),(0,_),(2,_),(3,_),(4,_),(7,_),(8,_),(32,_),(9,_)] ⟨rfl,rfl,rfl,rfl,rfl,rfl,rfl,rfl,rfl,trivial⟩ ?_
    refine AL_nil (AW_region rfl ?_)
    refine qp (v := vn (z + 1)) (PO_inc rfl rfl rfl (by first | omega | simp_all; omega)) ?_
    refine qm ?_
    refine AL_keep [(33,_),(0,_),(2,_),(3,_),(4,_),(7,_),(8,_),(32,_),(9,_)] ⟨rfl,rfl,rfl,rfl,rfl,rfl,rfl,rfl,rfl,trivial⟩ ?_
    refine AL_nil ?_
    exact ⟨z + 1, by omega, by omega, ⟨rfl, ⟨rfl, rfl, rfl, rfl, rfl, rfl, rfl, rfl, trivial⟩, (by rw [rep_set (by omega)]), rfl, rfl⟩⟩
   ·replace hc8 := of_decide_eq_false hc8
    refine AW_exit ?_
    refine AW_seq (AW_region rfl ?_)
    refine qm ?_
    refine qm ?_
    refine qa ?_
    refine qa ?_
    refine qa (v := vi 0) ?_
    refine AL_keep [(33,_),(0,_),(2,_),(3,_),(4,_),(7,_),(8,_),(32,_)] ⟨rfl,rfl,rfl,rfl,rfl,rfl,rfl,rfl,trivial⟩ ?_
    refine AL_nil ?_
    refine AW_frzn (k := 3) rfl hb (by omega) (by omega) ?_
    refine AW_ret ?_
    exact ret_le2 (.inl rfl) rfl (by rw [hw0, hg, rep_done (by omega)]) (.refl _)
  ·rw [if_neg (by simpa using hc5)] at hw0
   refine AW_skip (AW_seq (AW_region rfl ?_))
   refine qm ?_
   refine qm ?_
   refine qp (v := .tup [.sl .any 1 (((numG (seeG l)).1).map eI64), .lit (.bool ((numG (seeG l)).2))]) (PO_call rfl rfl rfl (numbers_ _ _ (by assumption))) ?_
   refine qm ?_
   refine qp (v := .sl .any 1 (((numG (seeG l)).1).map eI64)) (PO_extract rfl rfl rfl) ?_
   refine qp (v := vb ((numG (seeG l)).2)) (PO_extract rfl rfl rfl) ?_
   refine qa ?_
   refine qa ?_
   refine AL_keep [(0,_),(2,_),(3,_),(4,_),(6,_),(7,_),(10,_),(11,_)] ⟨rfl,rfl,rfl,rfl,rfl,rfl,rfl,rfl,trivial⟩ ?_
   refine AL_nil (AW_seq (AW_seq (AW_region rfl ?_)))
   refine qm ?_
   refine qp (v := vb (!((numG (seeG l)).2))) (PO_not (b := ((numG (seeG l)).2)) rfl rfl) ?_
   refine AL_keep [(0,_),(2,_),(3,_),(4,_),(6,_),(7,_),(10,_),(11,_),(49,_)] ⟨rfl,rfl,rfl,rfl,rfl,rfl,rfl,rfl,rfl,trivial⟩ ?_
   refine AL_nil ?_
   refine AW_cond _ rfl (fun hc14 => ?_) (fun hc14 => ?_)
   ·have hw : findN l = ([], 6) := by
     rw [hw0]
     rw [numG_see] at hc14
     cases hn : numV (clP (seeG l).out) (predF l []).length with
     | some ns => rw [hn] at hc14; cases hc14
     | none => rfl
    have hg : gptr l = .lit (.pointer none) := by rw [gptr, hw, if_neg (by simp)]
    refine AW_seq (AW_region rfl ?_)
    refine qa (v := .lit (.pointer none)) ?_
    refine qp (v := .sl .nil 1 []) (PO_nil_assign rfl) ?_
    refine qa (v := vi 6) ?_
    refine AL_nil ?_
    refine AW_any (k := 3) rfl ?_
    refine AW_ret ?_
    exact ret_le2 (.inl rfl) rfl (by rw [hw, hg]; rfl) (.refl _)
   ·have hw : findN l = ((numG (seeG l)).1, 0) := by
     rw [hw0]
     rw [numG_see] at hc14 ⊢
     cases hn : numV (clP (seeG l).out) (predF l []).length with
     | some ns => rfl
     | none => rw [hn] at hc14; cases hc14
    have hg : gptr l = .ip (eGraph (seeG l)) := by rw [gptr, hw, if_pos rfl]
    refine AW_skip (AW_seq (AW_region rfl ?_))
    refine qm ?_
    refine qm ?_
    refine qa ?_
    refine qa ?_
    refine qa (v := vi 0) ?_
    refine AL_keep [(0,_),(2,_),(3,_),(4,_),(6,_),(7,_),(10,_),(11,_)] ⟨rfl,rfl,rfl,rfl,rfl,rfl,rfl,rfl,trivial⟩ ?_
    refine AL_nil ?_
    refine AW_ret ?_
    exact ret_le2 (.inl rfl) rfl (by rw [hw, hg]) (.refl _)
end Go.AM.Tryd
end
section
set_option linter.unusedVariables false
set_option linter.unusedSimpArgs false
namespace Go.AM
open Go.RowKit Go.AM.D
section
variable {P : Program} {ρ : Option Nat} {Q : Exit → AS → Prop} {σ : AS} {o : Oper} {ops : Array Oper} {l : List Oper}
theorem zero_get {I : Imm} {z : Array Value} {zs : List AV} (hl : z.size = zs.length) (hv : ∀ i a, zs[i]? = some a → VR I a (z.getD i default)) (n i : Nat) (a : AV) (h : (azeros zs n)[i]? = some a) : ∃ v, (Builtin.zeroCells z n)[i]? = some v ∧ VR I a v := by
  have hlen : (azeros zs n).length = n * zs.length := by simp [azeros]
  have hi : i < n * zs.length := by rw [← hlen]; exact (List.getElem?_eq_some_iff.1 h).1
  have hsz : (Builtin.zeroCells z n).size = n * z.size := size_zeroCells ..
  have h1 := zero_cells (I := I) hl hv n i a h
  refine ⟨(Builtin.zeroCells z n)[i]'(by rw [hsz, hl]; exact hi), Array.getElem?_eq_getElem _, ?_⟩
  have e : (((Array.range (n * zs.length)).map (z[· % z.size]!)).getD i default) = (Builtin.zeroCells z n)[i]'(by rw [hsz, hl]; exact hi) := by
    rw [Array.getD_eq_getD_getElem?, Array.getElem?_eq_getElem (by simpa using hi)]
    simp [Builtin.zeroCells, hl]
  rw [← e]; exact h1
theorem MO_append_ms {s x : Operand} {t tx e e' : TypeId} {S bytes b k cap : Nat} {d : TypeDesc} {zs cs : List AV} {own' : Own} {xs : List (List AV)} (ho : o.op = .call { callee := .builtin .append, args := #[s, x], argTypes := #[t, tx] })
    (ht : P.underlying t = some (.slice e)) (htx : P.underlying tx = some (.slice e')) (he : TyF P e d S) (hz : ZeroF P e zs) (hzl : zs.length = S) (hb : (P.info? e).map (·.bytes) = some bytes)
    (hse : (ev σ.tm s = some (.ms b 0 S k cap) ∧ σ.h b = some (.row cs) ∧ cs.length = cap * S ∧ k ≤ cap) ∨ (∃ S0, ev σ.tm s = some (.sl .nil S0 []) ∧ cs = [] ∧ k = 0 ∧ cap = 0 ∧ σ.h b = none)) (hxe : ev σ.tm x = some (.sl own' S xs)) (hpos : 0 < xs.length)
    (hlim : (k + xs.length) * bytes ≤ 140737488355328) (h63 : k + xs.length ≤ 9223372036854775807) :
    MO P ρ o σ (fun u h' => ∃ b' cap' rest, u = .ms b' 0 S (k + xs.length) cap' ∧ (σ.h b' = none ∨ b' = b) ∧ h' = (σ.h.upd b none).upd b' (some (.row (cs.take (k * S) ++ xs.flatten ++ rest))) ∧ k + xs.length ≤ cap' ∧ (cs.take (k * S) ++ xs.flatten ++ rest).length = cap' * S ∧
      (rest = cs.drop ((k + xs.length) * S) ∨ ∃ r, rest = azeros zs r)) := by
  intro g I a w hs
  obtain ⟨z, z1, z2, z3, z4⟩ := run_zero hz I
  obtain ⟨i, hi, hib⟩ := Option.map_eq_some_iff.1 hb
  obtain ⟨i2, hi2, his⟩ := he.i
  obtain rfl : i = i2 := by rw [hi] at hi2; injection hi2
  obtain ⟨iz, zz, hz1, hz2, hz3, hz4⟩ := hz.z
  obtain rfl : i = iz := by rw [hi] at hz1; injection hz1
  have hzz : zz = z := by
    have := z1 w
    simp [zeroValue, typeInfo, hi, hz2] at this
    exact this
  subst hzz
  have hx := hs.ev hxe
  obtain ⟨news, hsrc, hxl, hxc, hxv⟩ := src_of_vr hs htx hx
  have hnl : news.length = xs.length * S := hsrc.newsLen
  have hxfl := flat_length hxl
  -- the row as it is
  have hrowf : σ.h b = none ∨ σ.h b = some (.row cs) := by
    rcases hse with ⟨-, h, -⟩ | ⟨_, -, -, -, -, h⟩
    · exact .inr h
    · exact .inl h
  have hlock : ∀ ob, σ.h b = some ob → ob.locked = false := by
    intro ob eb
    rcases hrowf with h | h
    · rw [h] at eb; cases eb
    · rw [h] at eb; cases eb; rfl
  -- the growing arm
  have grow : ∀ (base : Option Addr) (olds : List Value), a.eval s = .slice base k cap → (Builtin.firstCells S k (.slice base k cap)).run P w.drew = .ok olds.toArray w.drew → olds.length = k * S → (cs.take (k * S)).length = k * S →
      (∀ a ∈ cs, AV.cell a = true) → (∀ j a, (cs.take (k * S))[j]? = some a → VR I a (olds.getD j default)) → cap < k + xs.length →
      o.wpIn (WF ρ) 0 P a w (fun a' w' => ∃ I' u v h', I.le I' ∧ a' = a.put o.dst u ∧ VR I' v u ∧ SR g I' (σ.setH h') a w' ∧ ∃ b' cap' rest, v = .ms b' 0 S (k + xs.length) cap' ∧ (σ.h b' = none ∨ b' = b) ∧ h' = (σ.h.upd b none).upd b' (some (.row (cs.take (k * S) ++ xs.flatten ++ rest))) ∧ k + xs.length ≤ cap' ∧ (cs.take (k * S) ++ xs.flatten ++ rest).length = cap' * S ∧
      (rest = cs.drop ((k + xs.length) * S) ∨ ∃ r, rest = azeros zs r)) (fun _ _ _ => False) := by
    intro base olds hbase hold hol htl hecl hev hg
    have hrun := run_append_grow_src (P := P) w t tx o.type e i zz ht hi hz2 base k cap olds (by rw [his]; exact hold) (a.eval x) xs.length news (by rw [his]; exact hsrc) hg (Int.ofNat_le.2 h63)
      (by rw [hib]; exact growslice_fits hg hlim)
    have hcapge := grownCap_ge w (k + xs.length) cap e
    generalize hcap : grownCap w (k + xs.length) cap e = cap' at hrun hcapge
    generalize harr : ((olds ++ news).toArray ++ Builtin.zeroCells zz.cells (cap' - (k + xs.length))) = arr at hrun
    have hzlen : (azeros zs (cap' - (k + xs.length))).length = (cap' - (k + xs.length)) * S := by simp [azeros, hzl]
    have hrl : (cs.take (k * S) ++ xs.flatten ++ azeros zs (cap' - (k + xs.length))).length = cap' * S := by
      rw [List.length_append, List.length_append, htl, hxfl, hzlen, ← Nat.add_mul, ← Nat.add_mul]; congr 1; omega
    have hsz : arr.size = cap' * S := by
      rw [← harr, Array.size_append, List.size_toArray, List.length_append, size_zeroCells, hol, hnl, z2, hzl, ← Nat.add_mul, ← Nat.add_mul]; congr 1; omega
    have s1 := (hs.delObj b hlock).drew.alloc (.cells arr e)
    have hnew : (w.drew.alloc (.cells arr e)).heap[w.heap.size]? = some (.cells arr e (0, 0)) := heap_alloc_new w.drew _
    have hbn : (σ.setH (σ.h.upd b none)).h w.heap.size = none := by
      simp only [AS.setH, Heap.upd]; split
      · rfl
      · exact h_new hs
    have s2 := s1.setObj w.heap.size (.row (cs.take (k * S) ++ xs.flatten ++ azeros zs (cap' - (k + xs.length)))) hs.sz ⟨arr, e, hnew, by rw [hrl, hsz]; exact Nat.le_refl _, fun y hy => ?_, fun j y hy => ?_, I_new hs⟩ (fun ob eb => by rw [hbn] at eb; cases eb)
    · refine wpIn_of_run' (w' := w.drew.alloc (.cells arr e)) (u := .slice (some ⟨w.heap.size, 0, none⟩) (k + xs.length) cap') (by rw [ho]; simp) (by rw [exec_append ho, hbase, hrun]; rfl)
        ⟨I, _, _, _, .refl _, rfl, .ms w.heap.size 0 S (k + xs.length) cap', s2, w.heap.size, cap', azeros zs (cap' - (k + xs.length)), rfl, .inl (h_new hs), rfl, hcapge, hrl, .inr ⟨_, rfl⟩⟩
    · rw [List.mem_append, List.mem_append] at hy
      rcases hy with (hy | hy) | hy
      · exact hecl y (List.mem_of_mem_take hy)
      · obtain ⟨x', hx', hy'⟩ := List.mem_flatten.1 hy
        exact hxc x' hx' y hy'
      · exact azeros_cell z3 _ y hy
    · rw [Array.getD_eq_getD_getElem?, ← harr]
      by_cases c1 : j < k * S
      · rw [List.append_assoc, List.getElem?_append_left (by omega)] at hy
        rw [Array.getElem?_append_left (by rw [List.size_toArray, List.length_append]; omega), List.getElem?_toArray, List.getElem?_append_left (by omega), ← List.getD_eq_getElem?_getD]
        exact hev j y hy
      · by_cases c2 : j < k * S + xs.length * S
        · rw [List.getElem?_append_left (by rw [List.length_append]; omega), List.getElem?_append_right (by omega), htl] at hy
          rw [Array.getElem?_append_left (by rw [List.size_toArray, List.length_append]; omega), List.getElem?_toArray, List.getElem?_append_right (by omega), hol, ← List.getD_eq_getElem?_getD]
          exact hxv _ y hy
        · rw [List.getElem?_append_right (by rw [List.length_append]; omega), List.length_append, htl, hxfl] at hy
          rw [Array.getElem?_append_right (by rw [List.size_toArray, List.length_append]; omega), List.size_toArray, List.length_append, hol, hnl]
          obtain ⟨v, hv1, hv2⟩ := zero_get (I := I) (by rw [z2]) z4 _ _ y hy
          rw [hv1]; exact hv2
  rcases hse with ⟨hse, hrow, hcl, hkc⟩ | ⟨S0, hse, rfl, rfl, rfl, hbn⟩
  · have hv := hs.ev hse
    obtain ⟨hbase, arr, et, hw, hasz, hcell, hvr, hfree⟩ := hs.wr.obj b _ hrow
    generalize hev : a.eval s = sv at hv
    cases hv with
    | ms =>
      have hks : k * S ≤ cap * S := Nat.mul_le_mul_right _ hkc
      have htl : (cs.take (k * S)).length = k * S := by rw [List.length_take]; omega
      by_cases hroom : k + xs.length ≤ cap
      · have hqs : (k + xs.length) * S ≤ cap * S := Nat.mul_le_mul_right _ hroom
        have hfit : k * S + news.length ≤ arr.size := by rw [hnl, ← Nat.add_mul]; omega
        have hrun := run_append_room_row (P := P) w t tx o.type e i ht hi b k cap arr et hw (a.eval x) xs.length news (by rw [his]; exact hsrc) hroom (by rw [his]; exact hfit)
        rw [his] at hrun
        generalize harr' : (arr.toList.take (k * S) ++ news ++ arr.toList.drop (k * S + news.length)).toArray = arr' at hrun
        have hsz' : arr'.size = arr.size := by rw [← harr']; simp; omega
        have hw' : (w.setRow b arr').heap[b]? = some (.cells arr' et (0, 0)) := setRow_heap w b arr arr' et (0, 0) hw
        have s1 := (hs.delObj b hlock).setRow b hw arr' hbase (by simp [AS.setH]) (fun o' v h => by rw [hfree] at h; cases h)
        have hdl : (cs.drop ((k + xs.length) * S)).length = cap * S - (k + xs.length) * S := by rw [List.length_drop]; omega
        have hrl : (cs.take (k * S) ++ xs.flatten ++ cs.drop ((k + xs.length) * S)).length = cap * S := by
          rw [List.length_append, List.length_append, htl, hxfl, hdl, ← Nat.add_mul]; omega
        have s2 := s1.setObj b (.row (cs.take (k * S) ++ xs.flatten ++ cs.drop ((k + xs.length) * S))) hbase ⟨arr', et, hw', by rw [hrl, hsz']; omega, fun y hy => ?_, fun j y hy => ?_, hfree⟩ (fun ob eb => by simp [AS.setH] at eb)
        · refine wpIn_of_run' (w' := w.setRow b arr') (u := .slice (some ⟨b, 0, none⟩) (k + xs.length) cap) (by rw [ho]; simp) (by rw [exec_append ho, hev, hrun]; rfl)
            ⟨I, _, _, _, .refl _, rfl, .ms b 0 S (k + xs.length) cap, s2, b, cap, cs.drop ((k + xs.length) * S), rfl, .inr rfl, rfl, hroom, hrl, .inl rfl⟩
        · rw [List.mem_append, List.mem_append] at hy
          rcases hy with (hy | hy) | hy
          · exact hcell y (List.mem_of_mem_take hy)
          · obtain ⟨x', hx', hy'⟩ := List.mem_flatten.1 hy
            exact hxc x' hx' y hy'
          · exact hcell y (List.mem_of_mem_drop hy)
        · rw [Array.getD_eq_getD_getElem?, ← harr', List.getElem?_toArray]
          have e2 : (arr.toList.take (k * S)).length = k * S := by simp; omega
          by_cases c1 : j < k * S
          · rw [List.append_assoc, List.getElem?_append_left (by omega), List.getElem?_take, if_pos c1] at hy
            rw [List.append_assoc, List.getElem?_append_left (by omega), List.getElem?_take, if_pos c1, Array.getElem?_toList, ← Array.getD_eq_getD_getElem?]
            exact hvr j y hy
          · by_cases c2 : j < k * S + xs.length * S
            · rw [List.getElem?_append_left (by rw [List.length_append]; omega), List.getElem?_append_right (by omega), htl] at hy
              rw [List.getElem?_append_left (by rw [List.length_append]; omega), List.getElem?_append_right (by omega), e2, ← List.getD_eq_getElem?_getD]
              exact hxv _ y hy
            · rw [List.getElem?_append_right (by rw [List.length_append]; omega), List.length_append, htl, hxfl, List.getElem?_drop] at hy
              rw [List.getElem?_append_right (by rw [List.length_append]; omega), List.length_append, e2, hnl, List.getElem?_drop, Array.getElem?_toList, ← Array.getD_eq_getD_getElem?]
              have e3 : (k + xs.length) * S + (j - (k * S + xs.length * S)) = j := by rw [Nat.add_mul]; omega
              have e4 : k * S + xs.length * S + (j - (k * S + xs.length * S)) = j := by omega
              rw [e3] at hy; rw [e4]
              exact hvr j y hy
      · have hold : ∀ j, j < k * S → (arr.toList.take (k * S))[j]? = arr[j]? := fun j hj => by rw [List.getElem?_take, if_pos hj, Array.getElem?_toList]
        refine grow (some ⟨b, 0, none⟩) (arr.toList.take (k * S)) hev ?_ (by simp; omega) htl hcell (fun j y hy => ?_) (by omega)
        · refine run_firstCells_some w.drew S k ⟨b, 0, none⟩ k cap _ (by simp; omega) (fun j u hj => ?_)
          have hlt : j < k * S := by have := (List.getElem?_eq_some_iff.1 hj).1; simp at this; omega
          rw [hold j hlt] at hj
          rw [add_plain ⟨b, 0, none⟩ rfl]
          show w.drew.cell? ⟨b, 0 + j, none⟩ = some u
          rw [Nat.zero_add]
          have : w.cell? ⟨b, j, none⟩ = some u := by simpa [World.cell?, hw] using hj
          exact this
        · have hlt : j < k * S := by have := (List.getElem?_eq_some_iff.1 hy).1; rw [htl] at this; exact this
          rw [List.getElem?_take, if_pos hlt] at hy
          rw [List.getD_eq_getElem?_getD, hold j hlt, ← Array.getD_eq_getD_getElem?]
          exact hvr j y hy
  · have hv := hs.ev hse
    generalize hev : a.eval s = sv at hv
    cases hv with
    | slnil => exact grow none [] hev (by simp [Builtin.firstCells]) (by simp) (by simp) (by simp) (by simp) (by omega)
    | sl _ _ _ ad cap u ho' _ _ _ _ => exact ho'.2.2.elim
end
end Go.AM
end
section
set_option linter.unusedVariables false
set_option linter.unusedSimpArgs false
namespace Go.AM
open Go.RowKit Go.AM.D
def OutV {α : Type} (f : α → List AV) (S : Nat) (hp h0 : Heap) (ov : AV) (ls : List (List α)) : Prop :=
  (∃ S0, ov = .sl .nil S0 [] ∧ ls = []) ∨ ∃ bo cap fo, ov = .ms bo 0 1 ls.length cap ∧ Forest f S hp h0 bo fo ∧ fo.length = cap ∧ h0 bo = none ∧ (fo.take ls.length).map Gs.l = ls ∧ ls.length ≤ cap
theorem OutV.len {α : Type} {f : α → List AV} {S : Nat} {hp h0 : Heap} {ov : AV} {ls : List (List α)} (h : OutV f S hp h0 ov ls) {P : Program} {ρ : Option Nat} {σ : AS} {o : Oper} {x : Operand} {t e : TypeId} (ho : o.op = .call { callee := .builtin .len, args := #[x], argTypes := #[t] }) (ht : P.underlying t = some (.slice e)) (hx : ev σ.tm x = some ov) : PO P ρ o σ (.lit (.int .i64 ls.length)) := by
  rcases h with ⟨S0, rfl, rfl⟩ | ⟨bo, cap, fo, rfl, -⟩
  · exact PO_len ho ht hx
  · exact PO_len_ms ho ht hx
theorem Toks.nil {S : Nat} {hp h0 : Heap} (m : Nat) {os : List (Own × Nat)} (h : Toks S hp h0 os) : Toks S hp h0 (os ++ List.replicate m (.nil, 0)) := by
  refine ⟨fun i o n e => ?_, fun i j b n n' e1 e2 => ?_⟩
  · rcases Nat.lt_or_ge i os.length with c | c
    · rw [List.getElem?_append_left c] at e; exact h.1 i o n e
    · rw [List.getElem?_append_right c, List.getElem?_replicate] at e
      split at e
      · injection e with e; injection e with e1 e2; exact .inl ⟨e1.symm, e2.symm⟩
      · cases e
  · have hlt : ∀ (i n : Nat), (os ++ List.replicate m (Own.nil, 0))[i]? = some (Own.tok b, n) → os[i]? = some (Own.tok b, n) := by
      intro i n e
      rcases Nat.lt_or_ge i os.length with c | c
      · rwa [List.getElem?_append_left c] at e
      · rw [List.getElem?_append_right c, List.getElem?_replicate] at e
        split at e
        · injection e with e; injection e with e1 _; cases e1
        · cases e
    exact h.2 i j b n n' (hlt i n e1) (hlt j n' e2)
theorem Toks.take {S : Nat} {hp h0 : Heap} (m : Nat) {os : List (Own × Nat)} (h : Toks S hp h0 os) : Toks S hp h0 (os.take m) := by
  have hlt : ∀ (i : Nat) (x : Own × Nat), (os.take m)[i]? = some x → os[i]? = some x := by
    intro i x e
    rw [List.getElem?_take] at e
    split at e
    · exact e
    · cases e
  exact ⟨fun i o n e => h.1 i o n (hlt i _ e), fun i j b n n' e1 e2 => h.2 i j b n n' (hlt i _ e1) (hlt j _ e2)⟩
theorem Toks.setNil {S : Nat} {hp h0 : Heap} (k : Nat) {os : List (Own × Nat)} (h : Toks S hp h0 os) : Toks S hp h0 (os.set k (.nil, 0)) := by
  have hlt : ∀ (i : Nat) (o : Own) (n : Nat), (os.set k (Own.nil, 0))[i]? = some (o, n) → (o = .nil ∧ n = 0) ∨ os[i]? = some (o, n) := by
    intro i o n e
    rw [List.getElem?_set] at e
    split at e
    · split at e
      · injection e with e; injection e with e1 e2; exact .inl ⟨e1.symm, e2.symm⟩
      · cases e
    · exact .inr e
  refine ⟨fun i o n e => ?_, fun i j b n n' e1 e2 => ?_⟩
  · rcases hlt i o n e with h1 | h1
    · exact .inl h1
    · exact h.1 i o n h1
  · rcases hlt i _ n e1 with ⟨h1, -⟩ | h1
    · cases h1
    · rcases hlt j _ n' e2 with ⟨h2, -⟩ | h2
      · cases h2
      · exact h.2 i j b n n' h1 h2
section
variable {P : Program} {ρ : Option Nat} {Q : Exit → AS → Prop} {o : Oper} {ops : Array Oper} {l : List Oper} {n d : Nat} {tm : List (Nat × AV)} {h h0 : Heap} {ms : List Nat}
def gnil {α : Type} : Gs α := ⟨.nil, 0, []⟩
theorem azeros_gs {α : Type} (f : α → List AV) (r : Nat) : azeros [.sl .nil 0 []] r = (List.replicate r (gnil (α := α))).map (Gs.cell f) := by
  rw [List.map_replicate]
  induction r with
  | zero => rfl
  | succ m ih => rw [List.replicate_succ, ← ih]; rfl
theorem MO_outs {α : Type} {f : α → List AV} {S bytes : Nat} {ov : AV} {ls : List (List α)} {s x : Operand} {t tx e e' : TypeId} {dd : TypeDesc} (hO : OutV f S h h0 ov ls) (hle : h0.le h) (ho : o.op = .call { callee := .builtin .append, args := #[s, x], argTypes := #[t, tx] })
    (ht : P.underlying t = some (.slice e)) (htx : P.underlying tx = some (.slice e')) (he : TyF P e dd 1) (hz : ZeroF P e [.sl .nil 0 []]) (hb : (P.info? e).map (·.bytes) = some bytes)
    (hse : ev tm s = some ov) (hxe : ev tm x = some (.sl .full 1 [[.sl .nil 0 []]])) (hlim : (ls.length + 1) * bytes ≤ 140737488355328) (h63 : ls.length + 1 ≤ 9223372036854775807) :
    MO P ρ o ⟨n, tm, h, ms, h0⟩ (fun u h' => OutV f S h' h0 u (ls ++ [[]]) ∧ h0.le h') := by
  intro g I a w hs
  rcases hO with ⟨S0, rfl, rfl⟩ | ⟨bo, cap, fo, rfl, hF, hfl, hbo, hls, hlc⟩
  · refine wpIn_oper_mono (MO_append_ms (ρ := ρ) (σ := ⟨n, tm, h, ms, h0⟩) (b := w.heap.size) (k := 0) (cap := 0) (cs := []) ho ht htx he hz rfl hb (.inr ⟨S0, hse, rfl, rfl, rfl, h_new hs⟩) hxe (by simp) (by simpa using hlim) (by simp) g I a w hs) ?_ fun _ _ _ h => h
    rintro a' w' ⟨I', u, v, h', h1, h2, h3, h4, b', cap', rest, hv, hb', hh, hcap, hlen, hrest⟩
    have hb0 : h b' = none := by
      rcases hb' with hb' | rfl
      · exact hb'
      · exact h_new hs
    refine ⟨I', u, v, h', h1, h2, h3, h4, ?_, ?_⟩
    · obtain ⟨r, hr⟩ : ∃ r, rest = (List.replicate r (gnil (α := α))).map (Gs.cell f) := by
        rcases hrest with e | ⟨r, e⟩
        · exact ⟨0, by simpa using e⟩
        · exact ⟨r, by rw [e]; exact azeros_gs f r⟩
      subst hr
      refine .inr ⟨b', cap', gnil :: List.replicate r gnil, hv, ⟨?_, ?_, ?_⟩, ?_, Heap.none_of hle hb0, ?_, by simpa using hcap⟩
      · rw [hh, Heap.upd_same]; rfl
      · have : (gnil (α := α) :: List.replicate r gnil).map Gs.ow = [] ++ List.replicate (r + 1) (.nil, 0) := by
          rw [List.replicate_succ, List.map_cons, List.map_replicate]; rfl
        rw [this]
        exact Toks.nil _ ⟨by simp, by simp⟩
      · intro p hp
        rcases List.mem_cons.1 hp with rfl | hp
        · exact .inr rfl
        · rw [List.eq_of_mem_replicate hp]; exact .inr rfl
      · simp at hlen ⊢; omega
      · simp; rfl
    · rw [hh]
      exact Heap.le_upd (Heap.le_upd hle (Heap.none_of hle (h_new hs)) _) (Heap.none_of hle hb0) _
  · refine wpIn_oper_mono (MO_append_ms (ρ := ρ) (σ := ⟨n, tm, h, ms, h0⟩) (b := bo) (k := ls.length) (cap := cap) (cs := fo.map (Gs.cell f)) ho ht htx he hz rfl hb (.inl ⟨hse, hF.row, by simpa using hfl, hlc⟩) hxe (by simp) (by simpa using hlim) (by simpa using h63) g I a w hs) ?_ fun _ _ _ h => h
    rintro a' w' ⟨I', u, v, h', h1, h2, h3, h4, b', cap', rest, hv, hb', hh, hcap, hlen, hrest⟩
    simp only [List.length_singleton, Nat.mul_one] at hv hcap hlen hh hrest
    have hb0 : h0 b' = none := by
      rcases hb' with hb' | rfl
      · exact Heap.none_of hle hb'
      · exact hbo
    obtain ⟨fr, hfr, hfrt, hfrs⟩ : ∃ fr : List (Gs α), rest = fr.map (Gs.cell f) ∧ (∀ hp, Toks S hp h0 (fo.map Gs.ow) → Toks S hp h0 ((fo.take ls.length ++ gnil :: fr).map Gs.ow)) ∧ ∀ p ∈ fr, p.S = S ∨ p.l = [] := by
      rcases hrest with e | ⟨r, e⟩
      · refine ⟨fo.drop (ls.length + 1), by rw [e, List.map_drop], fun hp hT => ?_, fun p hp => hF.sz p (List.mem_of_mem_drop hp)⟩
        rcases Nat.lt_or_ge ls.length fo.length with c | c
        · have : (fo.take ls.length ++ gnil :: fo.drop (ls.length + 1)).map Gs.ow = (fo.map Gs.ow).set ls.length (.nil, 0) := by
            rw [List.set_eq_take_append_cons_drop, if_pos (by simpa using c), List.map_append, List.map_cons, List.map_take, List.map_drop]; rfl
          rw [this]; exact hT.setNil _
        · rw [List.drop_of_length_le (by omega), List.take_of_length_le c, List.map_append]
          exact Toks.nil 1 hT
      · refine ⟨List.replicate r gnil, by rw [e]; exact azeros_gs f r, fun hp hT => ?_, fun p hp => by rw [List.eq_of_mem_replicate hp]; exact .inr rfl⟩
        have : (fo.take ls.length ++ gnil :: List.replicate r gnil).map Gs.ow = (fo.map Gs.ow).take ls.length ++ List.replicate (r + 1) (.nil, 0) := by
          rw [List.map_append, List.map_take, List.map_cons, List.map_replicate, List.replicate_succ]; rfl
        rw [this]
        exact Toks.nil _ (hT.take _)
    subst hfr
    refine ⟨I', u, v, h', h1, h2, h3, h4, .inr ⟨b', cap', fo.take ls.length ++ gnil :: fr, by rw [hv]; simp, ⟨?_, ?_, ?_⟩, ?_, hb0, ?_, by simpa using hcap⟩, ?_⟩
    · rw [hh, Heap.upd_same]
      simp only [List.map_append, List.map_cons, List.map_take, List.flatten_cons, List.flatten_nil, List.append_nil, List.append_assoc, List.cons_append, List.nil_append]
      rfl
    · refine (hfrt h hF.toks).le fun q m e => ?_
      have q1 : q ≠ bo := fun e2 => by subst e2; rw [hF.row] at e; cases e
      have q2 : q ≠ b' := fun e2 => by
        subst e2
        rcases hb' with hb' | hb'
        · rw [show (AS.h ⟨n, tm, h, ms, h0⟩) q = h q from rfl, e] at hb'; cases hb'
        · exact q1 hb'
      rw [hh, Heap.upd_other _ q2, Heap.upd_other _ q1]; exact e
    · intro p hp
      rcases List.mem_append.1 hp with hp | hp
      · exact hF.sz p (List.mem_of_mem_take hp)
      · rcases List.mem_cons.1 hp with rfl | hp
        · exact .inr rfl
        · exact hfrs p hp
    · simp only [List.length_append, List.length_take, List.length_map, List.length_cons, List.flatten_cons, List.flatten_nil, List.append_nil, List.length_nil] at hlen ⊢; omega
    · have : (fo.take ls.length).length = ls.length := by rw [List.length_take]; omega
      rw [List.length_append, List.length_singleton, List.take_append, this, Nat.add_sub_cancel_left, List.map_append, List.take_take, Nat.min_eq_right (by omega)]
      rw [hls]; rfl
    · rw [hh]
      exact Heap.le_upd (Heap.le_upd hle hbo _) hb0 _
theorem AW_outs {α : Type} {f : α → List AV} {S k : Nat} {ov : AV} {ls : List (List α)} {c : Code} (hk : look tm k = some ov) (hO : OutV f S h h0 ov ls) (hle : h0.le h) (kk : ∀ h', h0.le h' → AW P ρ c Q ⟨n, (k, .sl .any 1 (ls.map fun x => [.sl .any S (x.map f)])) :: tm, h', ms, h0⟩) : AW P ρ c Q ⟨n, tm, h, ms, h0⟩ := by
  rcases hO with ⟨S0, rfl, rfl⟩ | ⟨bo, cap, fo, rfl, hF, hfl, hbo, hls, hlc⟩
  · refine AW_ghost (ghost_weak (u := .sl .any 1 []) hk fun I x hx => ?_) (kk h hle)
    cases hx with
    | slnil => exact .slnil _ _ (.inr rfl)
    | sl _ _ _ ad cap u ho' _ _ _ _ => exact ho'.2.2.elim
  · refine AW_ghost (ghost_rowW (ds' := fo.map fun p => .sl .any S (p.l.map f)) hF.row (by simp) fun i x y hx hy => ?_) ?_
    · rw [List.getElem?_map, Option.map_eq_some_iff] at hx hy
      obtain ⟨p, hp, rfl⟩ := hx
      obtain ⟨p', hp', rfl⟩ := hy
      rw [hp] at hp'; injection hp' with hp'; subst hp'
      exact ⟨fun _ => rfl, fun I v hv => VR.gs (hF.sz p (List.mem_of_getElem? hp)) hv⟩
    refine AW_ghost (ghost_ms (b := bo) (es := ls.map fun x => [.sl .any S (x.map f)]) hk (Heap.upd_same _ _ _) (by simp) (by simp) (fun i e j a h1 h2 => ?_) hlc) (kk _ (Heap.le_upd (Heap.le_upd hle hbo _) hbo _))
    rw [List.getElem?_map, Option.map_eq_some_iff] at h1
    obtain ⟨x, hx, rfl⟩ := h1
    have hj : j = 0 := by have := (List.getElem?_eq_some_iff.1 h2).1; simpa using this
    subst hj
    injection h2 with h2
    subst h2
    rw [← hls, List.getElem?_map, Option.map_eq_some_iff] at hx
    obtain ⟨p, hp, rfl⟩ := hx
    rw [List.getElem?_take] at hp
    split at hp
    · simp [hp]
    · cases hp
end
end Go.AM
end
section
set_option linter.unusedVariables false
set_option linter.unusedSimpArgs false
namespace Go.AM
open Go.RowKit Go.AM.D
theorem OutV.ms {α : Type} {f : α → List AV} {S : Nat} {hp h0 : Heap} {ov : AV} {ls : List (List α)} (h : OutV f S hp h0 ov ls) (hn : 0 < ls.length) : ∃ bo cap fo, ov = .ms bo 0 1 ls.length cap ∧ Forest f S hp h0 bo fo ∧ fo.length = cap ∧ h0 bo = none ∧ (fo.take ls.length).map Gs.l = ls ∧ ls.length ≤ cap := by
  rcases h with ⟨S0, rfl, rfl⟩ | h
  · simp at hn
  · exact h
end Go.AM
namespace Go.AM.Tryd
open Go Go.AM Go.AM.D
noncomputable def numberU (l : List Rule) (t : Term) : Int × Int := if (findN l).2 ≠ 0 then (0, (findN l).2) else if lookB t (predF l []) = true then ((findN l).1.getD (lookI t (predF l [])).toNat 0, 0) else (0, 0)
noncomputable def stU (l : List Rule) (r : Rule) : Int := if r.head.b.var = ⟨#[]⟩ then (findN l).1.getD (lookI r.head.b.term (predF l [])).toNat 0 else 1
def padL (ls : List (List Int)) (s : Nat) : List (List Int) := ls ++ List.replicate (s - ls.length) []
def putL (ls : List (List Int)) (s : Nat) (i : Int) : List (List Int) := (padL ls s).set (s - 1) ((padL ls s).getD (s - 1) [] ++ [i])
def laysF (v : Rule → Int) : Int → List Rule → List (List Int) → List (List Int)
  | _, [], o => o
  | i, r :: l, o => laysF v (i + 1) l (putL o (v r).toNat i)
noncomputable def layU (l : List Rule) : List (List Int) × Int := if (findN l).2 ≠ 0 then ([], (findN l).2) else (laysF (stU l) 0 l [], 0)
theorem findN_vals {l : List Rule} (h : (findN l).2 = 0) : Lo (predF l []).length (findN l).1 ∧ Hi (predF l []).length (findN l).1 := by
  rw [findN] at h ⊢
  split at h
  · rename_i h1; exact absurd h h1
  · rename_i h1
    rw [if_neg h1]
    split at h
    · rename_i h2; rw [if_pos h2]; exact ⟨rep_lo _, rep_hi _⟩
    · rename_i h2
      rw [if_neg h2]
      cases hn : numV (clP (seeG l).out) (predF l []).length with
      | none => rw [hn] at h; simp [ofV] at h
      | some ns => have := numV_spec hn; exact ⟨this.lo, this.hi⟩
theorem look_of {l : List Rule} {t : Term} (h : lookB t (predF l []) = true) : 0 ≤ lookI t (predF l []) ∧ (lookI t (predF l [])).toNat < (predF l []).length := by
  simp only [lookB, decide_eq_true_eq] at h
  have := lookI_lt (t := t) (names := predF l []) (by omega)
  omega
theorem look_has {l : List Rule} {r : Rule} (hm : r ∈ l) (hv : r.head.b.var = ⟨#[]⟩) : lookB r.head.b.term (predF l []) = true := by
  have h1 := predF_has (acc := []) hm hv
  have h2 := (atF_ge r.head.b.term (predF l []) 0).resolve_left h1
  simp only [lookB, decide_eq_true_eq]; omega
theorem stU_ok {l : List Rule} (h : (findN l).2 = 0) {r : Rule} (hm : r ∈ l) : 1 ≤ stU l r ∧ stU l r ≤ l.length := by
  have hp : 0 < l.length := List.length_pos_of_mem hm
  have hn := predF_len l []
  simp only [List.length_nil, Nat.zero_add] at hn
  rw [stU]
  split
  · rename_i hv
    have hl := look_of (look_has hm hv)
    have hf := findN_vals h
    exact ⟨hf.1.2 _ hl.2, Int.le_trans (hf.2 _ hl.2) (by omega)⟩
  · omega
theorem find_get {l : List Rule} (h : (findN l).2 = 0) {t : Term} (hl : lookB t (predF l []) = true) : ((findN l).1.map eI64)[(lookI t (predF l [])).toNat]? = some (eI64 ((findN l).1.getD (lookI t (predF l [])).toNat 0)) := by
  have h1 := look_of hl
  have h2 := (findN_vals h).1.1
  rw [List.getElem?_map, List.getD_eq_getElem?_getD, List.getElem?_eq_getElem (by omega)]
  rfl
theorem padL_done {ls : List (List Int)} {ls2 : List (List Int)} {s : Nat} (h : ls2 = ls ++ List.replicate (ls2.length - ls.length) []) (h1 : s ≤ ls2.length) (h2 : ls2.length ≤ ls.length ∨ ls2.length ≤ s) (h3 : ls.length ≤ ls2.length) : ls2 = padL ls s := by
  rw [padL]
  rcases h2 with h2 | h2
  · rw [show s - ls.length = ls2.length - ls.length by omega]; exact h
  · rw [show s - ls.length = ls2.length - ls.length by omega]; exact h
theorem putL_eq {ls ls2 : List (List Int)} {s : Int} {i : Int} {q : List Int} (h : ls2 = padL ls s.toNat) (hs : 1 ≤ s) (hq : ls2[(s - 1).toNat]? = some q) : ls2.set (s - 1).toNat (q ++ [i]) = putL ls s.toNat i := by
  rw [putL, ← h, show s.toNat - 1 = (s - 1).toNat by omega, List.getD_eq_getElem?_getD, hq]; rfl
end Go.AM.Tryd
end
