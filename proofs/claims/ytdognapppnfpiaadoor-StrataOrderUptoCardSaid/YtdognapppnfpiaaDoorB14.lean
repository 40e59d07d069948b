/- A part of the proof: walks of the code and laws that they use (Ww, Wx, Nh, Wy, Ni, Wz, Nj, W4). Conditions: as each theorem names them. -/
import Derived.Test.YtdognapppnfpiaaDoorB13
section
set_option maxRecDepth 100000
set_option linter.unusedVariables false
set_option linter.unusedSimpArgs false
namespace Go.AM.Tryd
open Go Go.AM Go.AM.D
theorem number_ (l : List Rule) (t : Term) (hl : okRs l) (hbods : bods l ≤ 1048576) : PFn PR (.fn (.func 10) [] []) [.agg (eTerm t), .sl .any 13 (l.map eRule)] (.tup [.lit (.int .i64 ((numberU l t).1)), .lit (.int .i64 ((numberU l t).2))]) := by
 have hl1 := hl.1
 have hPl := predF_len l []
 simp only [List.length_nil, Nat.zero_add] at hPl
 refine PFn_of Go.Proofs.Tryd.func10 rfl (by rfl) Go.Proofs.Tryd.ntmps10 rfl (by simp) fun h => ?_
 refine AW_seq (AW_region rfl ?_)
 refine qp (v := .ip (eTerm t)) (PO_boxA rfl rfl) ?_
 refine qa (v := vi 0) ?_
 refine qa (v := vi 0) ?_
 refine AL_nil (AW_seq (AW_region rfl ?_))
 refine qm ?_
 refine qp (v := .tup [(gptr l), .sl .any 1 (((findN l).1).map eI64), .lit (.int .i64 ((findN l).2))]) (PO_call rfl rfl rfl (find_ _ (by assumption) (by assumption))) ?_
 refine qm ?_
 refine qp (v := gptr l) (PO_extract rfl rfl rfl) ?_
 refine qp (v := .sl .any 1 (((findN l).1).map eI64)) (PO_extract rfl rfl rfl) ?_
 refine qp (v := vi ((findN l).2)) (PO_extract rfl rfl rfl) ?_
 refine qa ?_
 refine qa ?_
 refine qa ?_
 refine AL_keep [(0,_),(1,_),(2,_),(4,_),(5,_),(6,_),(7,_),(8,_)] ⟨rfl,rfl,rfl,rfl,rfl,rfl,rfl,rfl,trivial⟩ ?_
 refine AL_nil (AW_seq (AW_seq (AW_region rfl ?_)))
 refine qm ?_
 refine qp (v := vb (decide (((findN l).2 : Int) ≠ 0))) pI ?_
 refine AL_keep [(0,_),(1,_),(2,_),(4,_),(5,_),(6,_),(7,_),(8,_),(18,_)] ⟨rfl,rfl,rfl,rfl,rfl,rfl,rfl,rfl,rfl,trivial⟩ ?_
 refine AL_nil ?_
 refine AW_cond _ rfl (fun hc2 => ?_) (fun hc2 => ?_)
 ·replace hc2 := of_decide_eq_true hc2
  have hw : numberU l t = (0, (findN l).2) := by rw [numberU, if_pos hc2]
  refine AW_seq (AW_region rfl ?_)
  refine qm ?_
  refine qa (v := vi 0) ?_
  refine qa ?_
  refine AL_keep [(0,_),(1,_),(2,_),(4,_),(5,_),(6,_),(7,_),(8,_)] ⟨rfl,rfl,rfl,rfl,rfl,rfl,rfl,rfl,trivial⟩ ?_
  refine AL_nil ?_
  refine AW_ret ?_
  exact ret_le2 (.inl rfl) rfl (by rw [hw]) (.refl _)
 ·replace hc2 := of_decide_eq_false hc2
  have hz : (findN l).2 = 0 := by simpa using hc2
  have hfv := findN_vals hz
  refine AW_say (k := 6) (.ip (eGraph (seeG l))) rfl (by rw [gptr, if_pos hz]) ?_
  refine AW_skip (AW_seq (AW_seq ?_))
  refine AW_draw 11 [.ip (eGraph (seeG l)), .ip (eGraph (seeG l)), .ip (List.drop 1 (eGraph (seeG l))), .im ks25 true ((seeG l).at_), .agg (eTerm t), .tup [.lit (.int .i64 (lookI t ((seeG l).names))), .lit (.bool (lookB t ((seeG l).names)))], .tup [.lit (.int .i64 (lookI t ((seeG l).names))), .lit (.bool (lookB t ((seeG l).names)))], .lit (.int .i64 (lookI t ((seeG l).names))), .lit (.bool (lookB t ((seeG l).names))), .lit (.int .i64 (lookI t ((seeG l).names))), .lit (.bool (lookB t ((seeG l).names)))] [(0, .agg (eTerm t)), (1, .sl .any 13 (l.map eRule)), (2, .ip (eTerm t)), (4, .lit (.int .i64 0)), (5, .lit (.int .i64 0)), (6, .ip (eGraph (seeG l))), (7, .sl .any 1 (((findN l).1).map eI64)), (8, .lit (.int .i64 ((findN l).2))), (9, .lit (.int .i64 (lookI t ((seeG l).names)))), (10, .lit (.bool (lookB t ((seeG l).names))))] rfl hmixed (by kernel_rfl) rfl (by kernel_rfl) ⟨
   ⟨[(6, .ip (eGraph (seeG l)))], ⟨.inr ⟨by kernel_rfl, rfl⟩, trivial⟩, .inl ⟨rfl, PO_move rfl rfl⟩⟩,
   ⟨[(21, .ip (eGraph (seeG l)))], ⟨.inl ⟨0, by kernel_rfl, rfl, rfl⟩, trivial⟩, .inl ⟨rfl, PO_nilCheck_ip rfl rfl⟩⟩,
   ⟨[(22, .ip (eGraph (seeG l)))], ⟨.inl ⟨1, by kernel_rfl, rfl, rfl⟩, trivial⟩, .inl ⟨rfl, PO_fieldAddr rfl f62_1 rfl⟩⟩,
   ⟨[(23, .ip (List.drop 1 (eGraph (seeG l))))], ⟨.inl ⟨2, by kernel_rfl, rfl, rfl⟩, trivial⟩, .inl ⟨rfl, PO_load rfl ty59 rfl rfl⟩⟩,
   ⟨[(2, .ip (eTerm t))], ⟨.inr ⟨by kernel_rfl, rfl⟩, trivial⟩, .inl ⟨rfl, PO_load rfl ty25 rfl rfl⟩⟩,
   ⟨[(24, .im ks25 true ((seeG l).at_)), (25, .agg (eTerm t))], ⟨.inl ⟨3, by kernel_rfl, rfl, rfl⟩, .inl ⟨4, by kernel_rfl, rfl, rfl⟩, trivial⟩, .inl ⟨rfl, PO_lookT' rfl rfl rfl⟩⟩,
   ⟨[(26, .tup [.lit (.int .i64 (lookI t ((seeG l).names))), .lit (.bool (lookB t ((seeG l).names)))])], ⟨.inl ⟨5, by kernel_rfl, rfl, rfl⟩, trivial⟩, .inl ⟨rfl, PO_move rfl rfl⟩⟩,
   ⟨[(20, .tup [.lit (.int .i64 (lookI t ((seeG l).names))), .lit (.bool (lookB t ((seeG l).names)))])], ⟨.inl ⟨6, by kernel_rfl, rfl, rfl⟩, trivial⟩, .inl ⟨rfl, PO_extract rfl rfl rfl⟩⟩,
   ⟨[(20, .tup [.lit (.int .i64 (lookI t ((seeG l).names))), .lit (.bool (lookB t ((seeG l).names)))])], ⟨.inl ⟨6, by kernel_rfl, rfl, rfl⟩, trivial⟩, .inl ⟨rfl, PO_extract rfl rfl rfl⟩⟩,
   ⟨[(27, .lit (.int .i64 (lookI t ((seeG l).names))))], ⟨.inl ⟨7, by kernel_rfl, rfl, rfl⟩, trivial⟩, .inl ⟨rfl, PO_assign rfl rfl⟩⟩,
   ⟨[(28, .lit (.bool (lookB t ((seeG l).names))))], ⟨.inl ⟨8, by kernel_rfl, rfl, rfl⟩, trivial⟩, .inl ⟨rfl, PO_assign rfl rfl⟩⟩,
   trivial⟩ ⟨.inr ⟨by kernel_rfl, rfl⟩, .inr ⟨by kernel_rfl, rfl⟩, .inr ⟨by kernel_rfl, rfl⟩, .inr ⟨by kernel_rfl, rfl⟩, .inr ⟨by kernel_rfl, rfl⟩, .inr ⟨by kernel_rfl, rfl⟩, .inr ⟨by kernel_rfl, rfl⟩, .inr ⟨by kernel_rfl, rfl⟩, .inl ⟨9, by decide, rfl, rfl⟩, .inl ⟨10, by decide, rfl, rfl⟩, trivial⟩ ?_
  refine AL_nil (AW_seq (AW_region rfl ?_))
  refine qm ?_
  refine AL_nil ?_
  refine AW_cond _ rfl (fun hc5 => ?_) (fun hc5 => ?_)
  ·change lookB t (predF l []) = true at hc5
   have hlk := look_of hc5
   have hlk0 : 0 ≤ lookI t (seeG l).names := hlk.1
   have hw : numberU l t = ((findN l).1.getD (lookI t (predF l [])).toNat 0, 0) := by rw [numberU, if_neg (by simp [hz]), if_pos hc5]
   refine AW_seq (AW_region rfl ?_)
   refine qm ?_
   refine qm ?_
   refine qp (v := .ip (eI64 ((findN l).1.getD (lookI t (predF l [])).toNat 0))) (PO_indexAddr rfl un32 ty3 rfl rfl (by first | decide | omega) (find_get hz hc5)) ?_
   refine qp (v := vi ((findN l).1.getD (lookI t (predF l [])).toNat 0)) (PO_load rfl ty3 rfl rfl) ?_
   refine qa ?_
   refine qa (v := vi 0) ?_
   refine AL_keep [(0,_),(1,_),(2,_),(4,_),(5,_),(6,_),(7,_),(8,_),(9,_),(10,_)] ⟨rfl,rfl,rfl,rfl,rfl,rfl,rfl,rfl,rfl,rfl,trivial⟩ ?_
   refine AL_nil ?_
   refine AW_ret ?_
   exact ret_le2 (.inl rfl) rfl (by rw [hw]) (.refl _)
  ·have hw : numberU l t = (0, 0) := by rw [numberU, if_neg (by simp [hz]), if_neg (by rw [show lookB t (predF l []) = false from hc5]; simp)]
   refine AW_skip (AW_seq (AW_region rfl ?_))
   refine qa (v := vi 0) ?_
   refine qa (v := vi 0) ?_
   refine AL_nil ?_
   refine AW_ret ?_
   exact ret_le2 (.inl rfl) rfl (by rw [hw]) (.refl _)
theorem layers_ (l : List Rule) (hl : okRs l) (hbods : bods l ≤ 1048576) : PFn PR (.fn (.func 8) [] []) [.sl .any 13 (l.map eRule)] (.tup [.sl .any 1 (((layU l).1).map (fun l => [.sl .any 1 (l.map eI64)])), .lit (.int .i64 ((layU l).2))]) := by
 have hl1 := hl.1
 have hPl := predF_len l []
 simp only [List.length_nil, Nat.zero_add] at hPl
 refine PFn_of Go.Proofs.Tryd.func8 rfl (by rfl) Go.Proofs.Tryd.ntmps8 rfl (by simp) fun h => ?_
 refine AW_seq (AW_region rfl ?_)
 refine qp (v := .sl .nil 1 []) (PO_nil_assign rfl) ?_
 refine qa (v := vi 0) ?_
 refine AL_nil (AW_seq (AW_region rfl ?_))
 refine qm ?_
 refine qp (v := .tup [(gptr l), .sl .any 1 (((findN l).1).map eI64), .lit (.int .i64 ((findN l).2))]) (PO_call rfl rfl rfl (find_ _ (by assumption) (by assumption))) ?_
 refine qm ?_
 refine qp (v := gptr l) (PO_extract rfl rfl rfl) ?_
 refine qp (v := .sl .any 1 (((findN l).1).map eI64)) (PO_extract rfl rfl rfl) ?_
 refine qp (v := vi ((findN l).2)) (PO_extract rfl rfl rfl) ?_
 refine qa ?_
 refine qa ?_
 refine qa ?_
 refine AL_keep [(0,_),(2,_),(3,_),(4,_),(5,_),(6,_)] ⟨rfl,rfl,rfl,rfl,rfl,rfl,trivial⟩ ?_
 refine AL_nil (AW_seq (AW_seq (AW_region rfl ?_)))
 refine qm ?_
 refine qp (v := vb (decide (((findN l).2 : Int) ≠ 0))) pI ?_
 refine AL_keep [(0,_),(2,_),(3,_),(4,_),(5,_),(6,_),(18,_)] ⟨rfl,rfl,rfl,rfl,rfl,rfl,rfl,trivial⟩ ?_
 refine AL_nil ?_
 refine AW_cond _ rfl (fun hc2 => ?_) (fun hc2 => ?_)
 ·replace hc2 := of_decide_eq_true hc2
  have hw : layU l = ([], (findN l).2) := by rw [layU, if_pos hc2]
  refine AW_seq (AW_region rfl ?_)
  refine qm ?_
  refine qp (v := .sl .nil 1 []) (PO_nil_assign rfl) ?_
  refine qa ?_
  refine AL_keep [(0,_),(2,_),(3,_),(4,_),(5,_),(6,_)] ⟨rfl,rfl,rfl,rfl,rfl,rfl,trivial⟩ ?_
  refine AL_nil ?_
  refine AW_any (k := 2) rfl ?_
  refine AW_ret ?_
  exact ret_le2 (.inl rfl) rfl (by first | (rw [hw]; done) | (rw [hw]; rfl)) (.refl _)
 ·replace hc2 := of_decide_eq_false hc2
  have hz : (findN l).2 = 0 := by simpa using hc2
  have hfv := findN_vals hz
  refine AW_say (k := 4) (.ip (eGraph (seeG l))) rfl (by rw [gptr, if_pos hz]) ?_
  have hw : layU l = (laysF (stU l) 0 l [], 0) := by rw [layU, if_neg (by simp [hz])]
  refine AW_skip (AW_seq (AW_region rfl ?_))
  refine qp (v := .sl .nil 1 []) (PO_nil_assign rfl) ?_
  refine AL_nil (AW_seq (AW_seq (AW_region rfl ?_)))
  refine qm ?_
  refine qp (v := vi (l.length : Int)) (PO_lenM rfl un22 rfl) ?_
  refine qm (v := vi 0) ?_
  refine AL_nil (AW_block ?_)
  refine AW_iter (fun (z_ : Nat × List (List Int) × AV × Heap) => match z_ with | (i, ls, ov, hp) => [(22, .lit (.int .i64 ((i : Nat) : Int))), (7, ov), (2, .sl .nil 1 []), (3, .lit (.int .i64 0)), (4, .ip (eGraph (seeG l))), (5, .sl .any 1 (((findN l).1).map eI64)), (20, .sl .any 13 (l.map eRule)), (21, .lit (.int .i64 (l.length : Int)))]) (fun (z_ : Nat × List (List Int) × AV × Heap) => match z_ with | (i, ls, ov, hp) => hp) (fun (z_ : Nat × List (List Int) × AV × Heap) => match z_ with | (i, ls, ov, hp) => i ≤ l.length ∧ laysF (stU l) 0 l [] = laysF (stU l) i (l.drop i) ls ∧ OutV eI64 1 hp h ov ls ∧ h.le hp ∧ ls.length ≤ 1048576 ∧ ∀ x ∈ ls, x.length ≤ i) (fun (z_ : Nat × List (List Int) × AV × Heap) => match z_ with | (i, ls, ov, hp) => l.length - i) ((0, [], .sl .nil 1 [], h)) ⟨rfl, rfl, rfl, rfl, rfl, rfl, rfl, rfl, trivial⟩ rfl (⟨by omega, rfl, .inl ⟨1, rfl, rfl⟩, .refl _, by simp, by simp⟩) ?_
  rintro ⟨i, ls, ov, hp⟩ ⟨hIi, hS, hO, hle, hll, hlx⟩
  refine AW_seq (AW_region rfl ?_)
  refine qp (v := vb (decide ((((i : Nat) : Int) : Int) < (l.length : Int)))) pI ?_
  refine AL_nil (AW_seq ?_)
  refine AW_cond _ rfl (fun hc6 => ?_) (fun hc6 => ?_)
  ·replace hc6 := of_decide_eq_true hc6
   obtain ⟨r, hrr, hdr, hmr⟩ := drop_at (l := l) (i := i) (by omega)
   rw [hdr, laysF] at hS
   refine AW_skip (AW_seq (AW_block (AW_seq (AW_region rfl ?_))))
   refine qm ?_
   refine qp (v := .ip (eRule r)) (PO_indexAddr rfl un22 ty46 rfl rfl (by first | decide | omega) (mget hrr)) ?_
   refine qp (v := .agg (eRule r)) (PO_load rfl ty46 rfl rfl) ?_
   refine AL_alloc rfl rfl rfl rfl z46 fun b hb => ?_
   refine qa ?_
   refine AL_storeF (v := .agg (eRule r)) rfl rfl rfl ty46 rfl rfl hb rfl rfl rfl ?_
   refine AL_keep [(22,_),(7,_),(2,_),(3,_),(4,_),(5,_),(20,_),(21,_),(9,_),(8,_)] ⟨rfl,rfl,rfl,rfl,rfl,rfl,rfl,rfl,rfl,rfl,trivial⟩ ?_
   refine AL_nil (AW_seq (AW_region rfl ?_))
   refine qa (v := vi 1) ?_
   refine AL_nil ?_
   refine AW_join (α := Int) (fun (s : Int) => [(10, .lit (.int .i64 s)), (22, .lit (.int .i64 ((i : Nat) : Int))), (7, ov), (2, .sl .nil 1 []), (3, .lit (.int .i64 0)), (4, .ip (eGraph (seeG l))), (5, .sl .any 1 (((findN l).1).map eI64)), (20, .sl .any 13 (l.map eRule)), (21, .lit (.int .i64 (l.length : Int))), (8, .lit (.int .i64 ((i : Nat) : Int)))]) (fun (s : Int) => hp) (fun (s : Int) => s = stU l r) ?_ ?_
   ·refine AW_seq (AW_region rfl ?_)
    refine qp (v := .ip (List.drop 0 (eRule r))) (PO_fieldAddr rfl f46_0 rfl) ?_
    refine qp (v := .ip (List.drop (1 * 4) (List.drop 0 (eRule r)))) (PO_indexAddr_arr (i := 1) rfl un43 ty41 rfl rfl (by decide) (by decide)) ?_
    refine qp (v := .ip (List.drop 0 (List.drop (1 * 4) (List.drop 0 (eRule r))))) (PO_fieldAddr rfl f41_0 rfl) ?_
    refine qp (v := vs r.head.b.var) (PO_load rfl ty9 rfl rfl) ?_
    refine qp (v := vb (decide (r.head.b.var = ⟨#[]⟩))) (PO_str rfl rfl rfl rfl) ?_
    refine AL_keep [(22,_),(7,_),(2,_),(3,_),(4,_),(5,_),(20,_),(21,_),(9,_),(8,_),(10,_),(31,_)] ⟨rfl,rfl,rfl,rfl,rfl,rfl,rfl,rfl,rfl,rfl,rfl,rfl,trivial⟩ ?_
    refine AL_nil ?_
    refine AW_cond _ rfl (fun hc9 => ?_) (fun hc9 => ?_)
    ·replace hc9 := of_decide_eq_true hc9
     have hlb := look_has hmr hc9
     have hlk := look_of hlb
     have hlk0 : 0 ≤ lookI r.head.b.term (seeG l).names := hlk.1
     refine AW_draw 13 [.sl .any 1 (((findN l).1).map eI64), .ip (eGraph (seeG l)), .ip (eGraph (seeG l)), .ip (List.drop 1 (eGraph (seeG l))), .im ks25 true ((seeG l).at_), .ip (List.drop 0 (eRule r)), .ip (List.drop (1 * 4) (List.drop 0 (eRule r))), .ip (List.drop 1 (List.drop (1 * 4) (List.drop 0 (eRule r)))), .agg (eTerm r.head.b.term), .lit (.int .i64 (lookI r.head.b.term ((seeG l).names))), .ip (eI64 ((findN l).1.getD (lookI r.head.b.term (predF l [])).toNat 0)), .lit (.int .i64 ((findN l).1.getD (lookI r.head.b.term (predF l [])).toNat 0)), .lit (.int .i64 ((findN l).1.getD (lookI r.head.b.term (predF l [])).toNat 0))] [(22, .lit (.int .i64 ((i : Nat) : Int))), (7, ov), (2, .sl .nil 1 []), (3, .lit (.int .i64 0)), (4, .ip (eGraph (seeG l))), (5, .sl .any 1 (((findN l).1).map eI64)), (20, .sl .any 13 (l.map eRule)), (21, .lit (.int .i64 (l.length : Int))), (9, .ip (eRule r)), (8, .lit (.int .i64 ((i : Nat) : Int))), (10, .lit (.int .i64 ((findN l).1.getD (lookI r.head.b.term (predF l [])).toNat 0)))] rfl hmixed (by kernel_rfl) rfl (by kernel_rfl) ⟨
      ⟨[(5, .sl .any 1 (((findN l).1).map eI64))], ⟨.inr ⟨by kernel_rfl, rfl⟩, trivial⟩, .inl ⟨rfl, PO_move rfl rfl⟩⟩,
      ⟨[(4, .ip (eGraph (seeG l)))], ⟨.inr ⟨by kernel_rfl, rfl⟩, trivial⟩, .inl ⟨rfl, PO_move rfl rfl⟩⟩,
      ⟨[(33, .ip (eGraph (seeG l)))], ⟨.inl ⟨1, by kernel_rfl, rfl, rfl⟩, trivial⟩, .inl ⟨rfl, PO_nilCheck_ip rfl rfl⟩⟩,
      ⟨[(34, .ip (eGraph (seeG l)))], ⟨.inl ⟨2, by kernel_rfl, rfl, rfl⟩, trivial⟩, .inl ⟨rfl, PO_fieldAddr rfl f62_1 rfl⟩⟩,
      ⟨[(35, .ip (List.drop 1 (eGraph (seeG l))))], ⟨.inl ⟨3, by kernel_rfl, rfl, rfl⟩, trivial⟩, .inl ⟨rfl, PO_load rfl ty59 rfl rfl⟩⟩,
      ⟨[(9, .ip (eRule r))], ⟨.inr ⟨by kernel_rfl, rfl⟩, trivial⟩, .inl ⟨rfl, PO_fieldAddr rfl f46_0 rfl⟩⟩,
      ⟨[(37, .ip (List.drop 0 (eRule r)))], ⟨.inl ⟨5, by kernel_rfl, rfl, rfl⟩, trivial⟩, .inl ⟨rfl, PO_indexAddr_arr (i := 1) rfl un43 ty41 rfl rfl (by decide) (by decide)⟩⟩,
      ⟨[(38, .ip (List.drop (1 * 4) (List.drop 0 (eRule r))))], ⟨.inl ⟨6, by kernel_rfl, rfl, rfl⟩, trivial⟩, .inl ⟨rfl, PO_fieldAddr rfl f41_1 rfl⟩⟩,
      ⟨[(39, .ip (List.drop 1 (List.drop (1 * 4) (List.drop 0 (eRule r)))))], ⟨.inl ⟨7, by kernel_rfl, rfl, rfl⟩, trivial⟩, .inl ⟨rfl, PO_load rfl ty25 rfl rfl⟩⟩,
      ⟨[(36, .im ks25 true ((seeG l).at_)), (40, .agg (eTerm r.head.b.term))], ⟨.inl ⟨4, by kernel_rfl, rfl, rfl⟩, .inl ⟨8, by kernel_rfl, rfl, rfl⟩, trivial⟩, .inl ⟨rfl, PO_lookO' rfl rfl rfl⟩⟩,
      ⟨[(32, .sl .any 1 (((findN l).1).map eI64)), (41, .lit (.int .i64 (lookI r.head.b.term ((seeG l).names))))], ⟨.inl ⟨0, by kernel_rfl, rfl, rfl⟩, .inl ⟨9, by kernel_rfl, rfl, rfl⟩, trivial⟩, .inl ⟨rfl, PO_indexAddr rfl un32 ty3 rfl rfl (by first | decide | omega) (find_get hz hlb)⟩⟩,
      ⟨[(42, .ip (eI64 ((findN l).1.getD (lookI r.head.b.term (predF l [])).toNat 0)))], ⟨.inl ⟨10, by kernel_rfl, rfl, rfl⟩, trivial⟩, .inl ⟨rfl, PO_load rfl ty3 rfl rfl⟩⟩,
      ⟨[(43, .lit (.int .i64 ((findN l).1.getD (lookI r.head.b.term (predF l [])).toNat 0)))], ⟨.inl ⟨11, by kernel_rfl, rfl, rfl⟩, trivial⟩, .inl ⟨rfl, PO_assign rfl rfl⟩⟩,
      trivial⟩ ⟨.inr ⟨by kernel_rfl, rfl⟩, .inr ⟨by kernel_rfl, rfl⟩, .inr ⟨by kernel_rfl, rfl⟩, .inr ⟨by kernel_rfl, rfl⟩, .inr ⟨by kernel_rfl, rfl⟩, .inr ⟨by kernel_rfl, rfl⟩, .inr ⟨by kernel_rfl, rfl⟩, .inr ⟨by kernel_rfl, rfl⟩, .inr ⟨by kernel_rfl, rfl⟩, .inr ⟨by kernel_rfl, rfl⟩, .inl ⟨12, by decide, rfl, rfl⟩, trivial⟩ ?_
     refine AL_nil ?_
     exact ⟨_, by rw [stU, if_pos hc9], ⟨rfl, ⟨rfl, rfl, rfl, rfl, rfl, rfl, rfl, rfl, rfl, rfl, trivial⟩, rfl, rfl, rfl⟩⟩
    ·replace hc9 := of_decide_eq_false hc9
     refine AW_skip ?_
     exact ⟨_, by rw [stU, if_neg hc9], ⟨rfl, ⟨rfl, rfl, rfl, rfl, rfl, rfl, rfl, rfl, rfl, rfl, trivial⟩, rfl, rfl, rfl⟩⟩
   ·rintro s hs
    have hvo := stU_ok hz hmr
    rw [← hs] at hvo
    refine AW_seq (AW_block ?_)
    refine AW_iter (fun (z_ : List (List Int) × AV × Heap) => match z_ with | (ls2, ov2, hp2) => [(7, ov2), (10, .lit (.int .i64 s)), (22, .lit (.int .i64 ((i : Nat) : Int))), (2, .sl .nil 1 []), (3, .lit (.int .i64 0)), (4, .ip (eGraph (seeG l))), (5, .sl .any 1 (((findN l).1).map eI64)), (20, .sl .any 13 (l.map eRule)), (21, .lit (.int .i64 (l.length : Int))), (8, .lit (.int .i64 ((i : Nat) : Int)))]) (fun (z_ : List (List Int) × AV × Heap) => match z_ with | (ls2, ov2, hp2) => hp2) (fun (z_ : List (List Int) × AV × Heap) => match z_ with | (ls2, ov2, hp2) => ls2 = ls ++ List.replicate (ls2.length - ls.length) [] ∧ ls.length ≤ ls2.length ∧ (ls2.length ≤ ls.length ∨ ls2.length ≤ s.toNat) ∧ OutV eI64 1 hp2 h ov2 ls2 ∧ h.le hp2) (fun (z_ : List (List Int) × AV × Heap) => match z_ with | (ls2, ov2, hp2) => s.toNat - ls2.length) ((ls, ov, hp)) ⟨rfl, rfl, rfl, rfl, rfl, rfl, rfl, rfl, rfl, rfl, trivial⟩ rfl (⟨by simp, by omega, .inl (by omega), hO, hle⟩) ?_
    rintro ⟨ls2, ov2, hp2⟩ ⟨hpad, hln2, hor2, hO2, hle2⟩
    refine AW_seq (AW_seq (AW_region rfl ?_))
    refine qm (v := ov2) ?_
    refine qp (v := vi (ls2.length : Int)) (hO2.len rfl un28 rfl) ?_
    refine qm ?_
    refine qp (v := vb (decide (((ls2.length : Int) : Int) < s))) pI ?_
    refine AL_keep [(7,_),(10,_),(22,_),(2,_),(3,_),(4,_),(5,_),(20,_),(21,_),(8,_),(47,_)] ⟨rfl,rfl,rfl,rfl,rfl,rfl,rfl,rfl,rfl,rfl,rfl,trivial⟩ ?_
    refine AL_nil ?_
    refine AW_cond _ rfl (fun hc11 => ?_) (fun hc11 => ?_)
    ·replace hc11 := of_decide_eq_true hc11
     refine AW_skip (AW_block (AW_region rfl ?_))
     refine qm (v := ov2) ?_
     refine qp (v := .sl .full 1 [[.sl .nil 0 []]]) (PO_buildSlice (n := 1) (S := 1) (rs := [.sl .nil 0 []]) rfl un28 ty32 z32 rfl rfl rfl (by decide) rfl (by decide)) ?_
     refine AL_m rfl rfl rfl (MO_outs hO2 hle2 rfl un28 un28 ty32 z32 by32 rfl rfl (by omega) (by omega)) ?_
     rintro ov3 hp3 ⟨hO3, hle3⟩
     refine qa (v := ov3) ?_
     refine AL_keep [(7,_),(10,_),(22,_),(2,_),(3,_),(4,_),(5,_),(20,_),(21,_),(8,_)] ⟨rfl,rfl,rfl,rfl,rfl,rfl,rfl,rfl,rfl,rfl,trivial⟩ ?_
     refine AL_nil ?_
     exact ⟨(ls2 ++ [[]], ov3, hp3), ⟨by
       rw [List.length_append, List.length_singleton, show ls2.length + 1 - ls.length = (ls2.length - ls.length) + 1 by omega, List.replicate_succ', ← List.append_assoc, ← hpad], by rw [List.length_append]; omega, .inr (by rw [List.length_append, List.length_singleton]; omega), hO3, hle3⟩, by simp only [List.length_append, List.length_singleton]; omega, ⟨rfl, ⟨rfl, rfl, rfl, rfl, rfl, rfl, rfl, rfl, rfl, rfl, trivial⟩, rfl, rfl, rfl⟩⟩
    ·replace hc11 := of_decide_eq_false hc11
     rw [← hs] at hS
     refine AW_exit ?_
     have hlx2 : ∀ x ∈ ls2, x.length ≤ i := fun x hx => by
      rw [hpad, List.mem_append] at hx
      rcases hx with hx | hx
      ·exact hlx x hx
      ·rw [List.eq_of_mem_replicate hx]; simp
     have hpd := padL_done hpad (show s.toNat ≤ ls2.length by omega) hor2 hln2
     obtain ⟨bo, cap, fo, rfl, hF, hfl, hbo, hls, hlc⟩ := hO2.ms (by omega)
     obtain ⟨p, hp_, -, hpm⟩ := drop_at (l := fo) (i := (s - 1).toNat) (by omega)
     have hpg : ls2[(s - 1).toNat]? = some p.l := by
      rw [← hls, List.getElem?_map, List.getElem?_take, if_pos (by omega), hp_]; rfl
     have hpl := hlx2 p.l (List.mem_of_getElem? hpg)
     refine AW_region rfl ?_
     refine qm ?_
     refine qm ?_
     refine qp (v := vi (s - 1)) (PO_fit rfl rfl rfl rfl trivial (i64w (by omega) (by omega))) ?_
     refine qm ?_
     refine qm ?_
     refine qp (v := vi (s - 1)) (PO_fit rfl rfl rfl rfl trivial (i64w (by omega) (by omega))) ?_
     refine qp (v := .ptr bo ((s - 1).toNat)) (PO_ixn (i := s - 1) rfl un28 ty32 rfl rfl (by omega) (by omega)) ?_
     refine qp (v := .sl p.own p.S (p.l.map eI64)) (PO_load_row rfl ty32 rfl hF.row (gs_load hp_ rfl)) ?_
     refine qm ?_
     refine qp (v := .sl .full 1 ([((i : Nat) : Int)].map eI64)) (PO_buildSlice (n := 1) (S := 1) (rs := [.lit (.int .i64 ((i : Nat) : Int))] ++ []) rfl un32 ty3 z3 rfl rfl rfl (by decide) rfl (by decide)) ?_
     refine AL_m rfl rfl rfl (MO_appT (f := eI64) (acc := p.l) (ys := [((i : Nat) : Int)]) (os := fo.map Gs.ow) (i := (s - 1).toNat) rfl un32 un32 ty3 z3 rfl by3 rfl rfl (hF.sz p hpm) (by simp) hF.toks (by rw [List.getElem?_map, hp_]; rfl) hle2 (by simp only [List.length_singleton]; omega) (by simp only [List.length_singleton]; omega)) ?_
     rintro _ hq ⟨own2, rfl, hT, hleq, hsame⟩
     refine qp (v := .ptr bo ((s - 1).toNat)) (PO_ixn (i := s - 1) rfl un28 ty32 rfl rfl (by omega) (by omega)) ?_
     refine AL_storeC (vs := [.sl own2 1 ((p.l ++ [((i : Nat) : Int)]).map eI64)]) (b := bo) (off := (s - 1).toNat) (cs := fo.map (Gs.cell eI64)) (v := .sl own2 1 ((p.l ++ [((i : Nat) : Int)]).map eI64)) rfl rfl rfl rfl ty32 rfl rfl (hsame.row hF.row) rfl rfl (by rw [List.length_map]; omega) ?_
     have hF4 := hF.app (acc := p.l ++ [((i : Nat) : Int)]) (by omega) hsame hT
     have hle4 := Heap.le_upd hleq hbo (some (.row (setCells (fo.map (Gs.cell eI64)) (s - 1).toNat [.sl own2 1 ((p.l ++ [((i : Nat) : Int)]).map eI64)])))
     generalize hq.upd bo (some (.row (setCells (fo.map (Gs.cell eI64)) (s - 1).toNat [.sl own2 1 ((p.l ++ [((i : Nat) : Int)]).map eI64)]))) = hp4 at hF4 hle4 ⊢
     have hput : ls2.set (s - 1).toNat (p.l ++ [((i : Nat) : Int)]) = putL ls s.toNat i := putL_eq hpd (by omega) hpg
     have hO4 : OutV eI64 1 hp4 h (.ms bo 0 1 ls2.length cap) (putL ls s.toNat i) := by
      rw [← hput]
      refine .inr ⟨bo, cap, _, by rw [List.length_set], hF4, by rw [List.length_set]; exact hfl, hbo, ?_, by rw [List.length_set]; exact hlc⟩
      rw [List.length_set, List.take_set, List.map_set, hls]
     have hlx4 : ∀ x ∈ putL ls s.toNat i, x.length ≤ i + 1 := fun x hx => by
      rw [← hput] at hx
      rcases List.mem_or_eq_of_mem_set hx with hx | rfl
      ·have := hlx2 x hx; omega
      ·rw [List.length_append, List.length_singleton]; omega
     refine AL_keep [(7,_),(10,_),(22,_),(2,_),(3,_),(4,_),(5,_),(20,_),(21,_),(8,_)] ⟨rfl,rfl,rfl,rfl,rfl,rfl,rfl,rfl,rfl,rfl,trivial⟩ ?_
     refine AL_nil (AW_region rfl ?_)
     refine qp (v := vn (i + 1)) (PO_inc rfl rfl rfl (by first | omega | simp_all; omega)) ?_
     refine qm ?_
     refine AL_keep [(7,_),(10,_),(22,_),(2,_),(3,_),(4,_),(5,_),(20,_),(21,_),(8,_)] ⟨rfl,rfl,rfl,rfl,rfl,rfl,rfl,rfl,rfl,rfl,trivial⟩ ?_
     refine AL_nil ?_
     exact ⟨(i + 1, putL ls s.toNat i, .ms bo 0 1 ls2.length cap, hp4), ⟨by omega, hS, hO4, hle4, by rw [← hput, List.length_set]; omega, hlx4⟩, by simp only []; omega, ⟨rfl, ⟨rfl, rfl, rfl, rfl, rfl, rfl, rfl, rfl, trivial⟩, rfl, rfl, rfl⟩⟩
  ·replace hc6 := of_decide_eq_false hc6
   rw [drop_end (l := l) (i := i) (by omega), laysF] at hS
   rw [hS] at hw
   refine AW_exit ?_
   refine AW_seq (AW_region rfl ?_)
   refine qm (v := ov) ?_
   refine qa (v := ov) ?_
   refine qa (v := vi 0) ?_
   refine AL_keep [(22,_),(7,_),(2,_),(3,_),(4,_),(5,_),(20,_),(21,_)] ⟨rfl,rfl,rfl,rfl,rfl,rfl,rfl,rfl,trivial⟩ ?_
   refine AL_nil ?_
   refine AW_outs (k := 2) rfl hO hle fun h9 hle9 => ?_
   refine AW_ret ?_
   exact ret_le2 (.inl rfl) rfl (by first | (rw [hw]; done) | (rw [hw]; rfl)) hle9
end Go.AM.Tryd
end
section
set_option maxRecDepth 100000
set_option linter.unusedVariables false
set_option linter.unusedSimpArgs false
namespace Go.AM.Tryd
open Go Go.AM Go.AM.D
def httpB : ByteArray := ⟨#[104, 116, 116, 112, 58, 47, 47]⟩
def iriS (s : ByteArray) : Slot := ⟨⟨#[]⟩, ⟨1, httpB ++ s, ⟨#[]⟩⟩⟩
def sx : Slot := ⟨⟨#[120]⟩, ⟨0, ⟨#[]⟩, ⟨#[]⟩⟩⟩
def litS (k : Int) (s : ByteArray) : Lt := ⟨k, ⟨sx, iriS s, sx⟩, ⟨⟨#[]⟩, ⟨0, ⟨#[]⟩, ⟨#[]⟩⟩⟩, ⟨⟨#[]⟩, ⟨0, ⟨#[]⟩, ⟨#[]⟩⟩⟩⟩
def simpleR (a b c : ByteArray) : Rule := ⟨⟨sx, iriS a, sx⟩, litS 1 b :: (if c ≠ ⟨#[]⟩ then [litS 2 c] else [])⟩
theorem iri21_ (s : ByteArray) (hs : s.size ≤ 1048576) : PFn PR (.fn (.func 21) [] []) [.lit (.string s)] (.agg (eSlot (iriS s))) := by
 refine PFn_ofG Go.Proofs.Tryd.func21 rfl (by rfl) Go.Proofs.Tryd.ntmps21 rfl (by simp) fun h => ?_
 refine AW_seq (AW_region rfl ?_)
 refine AL_alloc rfl rfl rfl rfl z41 fun b hb => ?_
 have hle0 : h.le (h.upd b (some (.row zs41))) := Heap.le_upd (.refl h) hb _
 refine AL_nil (AW_seq (AW_region rfl ?_))
 refine qm ?_
 refine qp (v := vs (httpB ++ s)) (PO_concat rfl rfl rfl (by rw [show httpB.size = 7 from rfl]; omega)) ?_
 refine qp (v := .agg (eTerm (⟨1, (httpB ++ s), ⟨#[]⟩⟩ : Term))) (PO_build rfl z25 pl25 rfl rfl) ?_
 refine qp (v := .agg (eSlot (⟨⟨#[]⟩, (⟨1, (httpB ++ s), ⟨#[]⟩⟩ : Term)⟩ : Slot))) (PO_build rfl z41 pl41 rfl rfl) ?_
 refine AL_storeC (vs := eSlot (iriS s)) (b := b) (off := 0) (cs := zs41) (v := .agg (eSlot (iriS s))) rfl rfl rfl rfl ty41 rfl rfl (Heap.upd_same _ _ _) rfl rfl (by simp) ?_
 refine AL_keep [(0,_),(2,_)] ⟨rfl,rfl,trivial⟩ ?_
 refine AL_nil ?_
 refine AW_ret ?_
 exact ret_G (.inl rfl) (Results.cell rfl ty41 rfl (Heap.upd_same _ _ _) rfl) rfl (Heap.le_upd hle0 hb _) (by simp)
theorem simple14_ (s t u : ByteArray) (hs : s.size ≤ 1048576) (ht : t.size ≤ 1048576) (hu : u.size ≤ 1048576) : PFn PR (.fn (.func 14) [] []) [.lit (.string s), .lit (.string t), .lit (.string u)] (.agg (eRule (simpleR s t u))) := by
 refine PFn_ofG Go.Proofs.Tryd.func14 rfl (by rfl) Go.Proofs.Tryd.ntmps14 rfl (by simp) fun h => ?_
 refine AW_seq (AW_region rfl ?_)
 refine AL_alloc rfl rfl rfl rfl z46 fun b hb => ?_
 have hle0 : h.le (h.upd b (some (.row zs46))) := Heap.le_upd (.refl h) hb _
 refine AL_nil (AW_seq (AW_region rfl ?_))
 refine qp (v := .agg (eSlot sx)) (PO_build rfl z41 pl41 rfl rfl) ?_
 refine AL_als rfl rfl rfl rfl rfl rfl al41 rfl rfl rfl rfl rfl ?_
 refine AL_keep [(0,_),(1,_),(2,_),(6,_),(7,_)] ⟨rfl,rfl,rfl,rfl,rfl,trivial⟩ ?_
 refine AL_nil (AW_seq ?_)
 refine AW_draw1 13 [.agg (eSlot sx), .lit (.string s), .agg (eSlot (iriS s)), .agg (eSlot sx), .agg (ePat ⟨sx, iriS s, sx⟩), .agg (eSlot sx), .lit (.string t), .agg (eSlot (iriS t)), .agg (eSlot sx), .agg (ePat ⟨sx, iriS t, sx⟩), .agg (eLit (litS 1 t)), .sl .full 21 ([litS 1 t].map eLit), .agg (ePat ⟨sx, iriS s, sx⟩ ++ [.sl .full 21 ([litS 1 t].map eLit)])] [(0, .lit (.string s)), (1, .lit (.string t)), (2, .lit (.string u)), (6, .ptr b 0), (7, .ip (eSlot sx)), (10, .agg (eSlot sx)), (11, .lit (.string s)), (12, .agg (eSlot (iriS s))), (13, .agg (eSlot sx)), (14, .agg (ePat ⟨sx, iriS s, sx⟩)), (15, .agg (eSlot sx)), (16, .lit (.string t)), (17, .agg (eSlot (iriS t))), (18, .agg (eSlot sx)), (19, .agg (ePat ⟨sx, iriS t, sx⟩)), (20, .agg (eLit (litS 1 t))), (21, .sl .full 21 ([litS 1 t].map eLit)), (22, .agg (ePat ⟨sx, iriS s, sx⟩ ++ [.sl .full 21 ([litS 1 t].map eLit)]))] (fun _ => True) _ (tmx := []) rfl hmixed (by kernel_rfl) rfl rfl rfl rfl rfl trivial trivial (MO_alloc rfl z46) (fun _ _ _ => trivial) rfl (by kernel_rfl) (fun hh hK => ⟨
  ⟨[(7, .ip (eSlot sx))], ⟨.inr ⟨by kernel_rfl, rfl⟩, trivial⟩, .inl ⟨rfl, PO_load rfl ty41 rfl rfl⟩⟩,
  ⟨[(0, .lit (.string s))], ⟨.inr ⟨by kernel_rfl, rfl⟩, trivial⟩, .inl ⟨rfl, PO_move rfl rfl⟩⟩,
  ⟨[(11, .lit (.string s))], ⟨.inl ⟨1, by kernel_rfl, rfl, rfl⟩, trivial⟩, .inl ⟨rfl, PO_call rfl rfl rfl (iri21_ _ (by first | assumption | omega))⟩⟩,
  ⟨[(7, .ip (eSlot sx))], ⟨.inr ⟨by kernel_rfl, rfl⟩, trivial⟩, .inl ⟨rfl, PO_load rfl ty41 rfl rfl⟩⟩,
  ⟨[(10, .agg (eSlot sx)), (12, .agg (eSlot (iriS s))), (13, .agg (eSlot sx))], ⟨.inl ⟨0, by kernel_rfl, rfl, rfl⟩, .inl ⟨2, by kernel_rfl, rfl, rfl⟩, .inl ⟨3, by kernel_rfl, rfl, rfl⟩, trivial⟩, .inl ⟨rfl, PO_build_arr rfl z43 un43 ty41 rfl rfl⟩⟩,
  ⟨[(7, .ip (eSlot sx))], ⟨.inr ⟨by kernel_rfl, rfl⟩, trivial⟩, .inl ⟨rfl, PO_load rfl ty41 rfl rfl⟩⟩,
  ⟨[(1, .lit (.string t))], ⟨.inr ⟨by kernel_rfl, rfl⟩, trivial⟩, .inl ⟨rfl, PO_move rfl rfl⟩⟩,
  ⟨[(16, .lit (.string t))], ⟨.inl ⟨6, by kernel_rfl, rfl, rfl⟩, trivial⟩, .inl ⟨rfl, PO_call rfl rfl rfl (iri21_ _ (by first | assumption | omega))⟩⟩,
  ⟨[(7, .ip (eSlot sx))], ⟨.inr ⟨by kernel_rfl, rfl⟩, trivial⟩, .inl ⟨rfl, PO_load rfl ty41 rfl rfl⟩⟩,
  ⟨[(15, .agg (eSlot sx)), (17, .agg (eSlot (iriS t))), (18, .agg (eSlot sx))], ⟨.inl ⟨5, by kernel_rfl, rfl, rfl⟩, .inl ⟨7, by kernel_rfl, rfl, rfl⟩, .inl ⟨8, by kernel_rfl, rfl, rfl⟩, trivial⟩, .inl ⟨rfl, PO_build_arr rfl z43 un43 ty41 rfl rfl⟩⟩,
  ⟨[(19, .agg (ePat ⟨sx, iriS t, sx⟩))], ⟨.inl ⟨9, by kernel_rfl, rfl, rfl⟩, trivial⟩, .inl ⟨rfl, PO_build rfl z68 pl68 rfl rfl⟩⟩,
  ⟨[(20, .agg (eLit (litS 1 t)))], ⟨.inl ⟨10, by kernel_rfl, rfl, rfl⟩, trivial⟩, .inl ⟨rfl, PO_buildSlice (n := 1) (S := 21) (rs := eLit (litS 1 t) ++ []) rfl un44 ty68 z68 rfl rfl rfl (by decide) rfl (by decide)⟩⟩,
  ⟨[(14, .agg (ePat ⟨sx, iriS s, sx⟩)), (21, .sl .full 21 ([litS 1 t].map eLit))], ⟨.inl ⟨4, by kernel_rfl, rfl, rfl⟩, .inl ⟨11, by kernel_rfl, rfl, rfl⟩, trivial⟩, .inl ⟨rfl, PO_build rfl z46 pl46 rfl rfl⟩⟩,
  trivial⟩) ⟨.inr ⟨by kernel_rfl, rfl⟩, .inr ⟨by kernel_rfl, rfl⟩, .inr ⟨by kernel_rfl, rfl⟩, .inr ⟨by kernel_rfl, rfl⟩, .inr ⟨by kernel_rfl, rfl⟩, .inl ⟨0, by decide, rfl, rfl⟩, .inl ⟨1, by decide, rfl, rfl⟩, .inl ⟨2, by decide, rfl, rfl⟩, .inl ⟨3, by decide, rfl, rfl⟩, .inl ⟨4, by decide, rfl, rfl⟩, .inl ⟨5, by decide, rfl, rfl⟩, .inl ⟨6, by decide, rfl, rfl⟩, .inl ⟨7, by decide, rfl, rfl⟩, .inl ⟨8, by decide, rfl, rfl⟩, .inl ⟨9, by decide, rfl, rfl⟩, .inl ⟨10, by decide, rfl, rfl⟩, .inl ⟨11, by decide, rfl, rfl⟩, .inl ⟨12, by decide, rfl, rfl⟩, trivial⟩ ?_
 rintro _ _ ⟨b8, hb80, rfl, rfl⟩
 have hb81 : (h.upd b (some (.row zs46))) b8 = none := hb80
 have hb8 : h b8 = none := Heap.none_of hle0 hb81
 have hbb : b ≠ b8 := fun e => by subst e; rw [Heap.upd_same] at hb81; cases hb81
 refine AL_storeC (vs := (ePat ⟨sx, iriS s, sx⟩ ++ [.sl .full 21 ([litS 1 t].map eLit)])) (b := b8) (off := 0) (cs := zs46) (v := .agg (ePat ⟨sx, iriS s, sx⟩ ++ [.sl .full 21 ([litS 1 t].map eLit)])) rfl rfl rfl rfl ty46 rfl rfl (Heap.upd_same _ _ _) rfl rfl (by simp) ?_
 have hrow := Heap.upd_same ((h.upd b (some (.row zs46))).upd b8 (some (.row zs46))) b8 (some (.row (setCells zs46 0 (ePat ⟨sx, iriS s, sx⟩ ++ [.sl .full 21 ([litS 1 t].map eLit)]))))
 have hroA := (Heap.upd_other ((h.upd b (some (.row zs46))).upd b8 (some (.row zs46))) hbb (some (.row (setCells zs46 0 (ePat ⟨sx, iriS s, sx⟩ ++ [.sl .full 21 ([litS 1 t].map eLit)]))))).trans ((Heap.upd_other (h.upd b (some (.row zs46))) hbb (some (.row zs46))).trans (Heap.upd_same _ _ _))
 have hle1 := Heap.le_upd (Heap.le_upd hle0 hb8 (some (.row zs46))) hb8 (some (.row (setCells zs46 0 (ePat ⟨sx, iriS s, sx⟩ ++ [.sl .full 21 ([litS 1 t].map eLit)]))))
 generalize ((h.upd b (some (.row zs46))).upd b8 (some (.row zs46))).upd b8 (some (.row (setCells zs46 0 (ePat ⟨sx, iriS s, sx⟩ ++ [.sl .full 21 ([litS 1 t].map eLit)])))) = h1 at hrow hroA hle1 ⊢
 refine AL_keep [(8,_),(0,_),(1,_),(2,_),(6,_),(7,_)] ⟨rfl,rfl,rfl,rfl,rfl,rfl,trivial⟩ ?_
 refine AL_nil ?_
 refine AW_join (α := Own × List Lt × Heap) (fun (z_ : Own × List Lt × Heap) => match z_ with | (own3, bd, hp) => [(8, .ptr b8 0), (6, .ptr b 0)]) (fun (z_ : Own × List Lt × Heap) => match z_ with | (own3, bd, hp) => hp) (fun (z_ : Own × List Lt × Heap) => match z_ with | (own3, bd, hp) => hp b8 = some (.row (ePat ⟨sx, iriS s, sx⟩ ++ [.sl own3 21 (bd.map eLit)])) ∧ hp b = some (.row zs46) ∧ h.le hp ∧ bd = (simpleR s t u).body) ?_ ?_
 ·refine AW_seq (AW_region rfl ?_)
  refine qm ?_
  refine qp (v := vb (decide (u ≠ ⟨#[]⟩))) (PO_str rfl rfl rfl rfl) ?_
  refine AL_keep [(8,_),(0,_),(1,_),(2,_),(6,_),(7,_),(24,_)] ⟨rfl,rfl,rfl,rfl,rfl,rfl,rfl,trivial⟩ ?_
  refine AL_nil ?_
  refine AW_cond _ rfl (fun hc3 => ?_) (fun hc3 => ?_)
  ·replace hc3 := of_decide_eq_true hc3
   refine AW_draw1 9 [.ptr b8 12, .sl .full 21 ([litS 1 t].map eLit), .agg (eSlot sx), .lit (.string u), .agg (eSlot (iriS u)), .agg (eSlot sx), .agg (ePat ⟨sx, iriS u, sx⟩), .agg (eLit (litS 2 u)), .sl .full 21 ([litS 2 u].map eLit)] [(8, .ptr b8 0), (0, .lit (.string s)), (1, .lit (.string t)), (2, .lit (.string u)), (6, .ptr b 0), (7, .ip (eSlot sx)), (25, .ptr b8 12), (26, .sl .full 21 ([litS 1 t].map eLit)), (27, .agg (eSlot sx)), (28, .lit (.string u)), (29, .agg (eSlot (iriS u))), (30, .agg (eSlot sx)), (31, .agg (ePat ⟨sx, iriS u, sx⟩)), (32, .agg (eLit (litS 2 u))), (33, .sl .full 21 ([litS 2 u].map eLit))] (fun hh => hh b8 = some (.row (setCells zs46 0 (ePat ⟨sx, iriS s, sx⟩ ++ [.sl .full 21 ([litS 1 t].map eLit)])))) _ (tmx := [(26, .sl .full 21 ([litS 1 t].map eLit)), (33, .sl .full 21 ([litS 2 u].map eLit))]) rfl hmixed (by kernel_rfl) rfl rfl rfl rfl rfl hrow ⟨.inl ⟨1, by kernel_rfl, rfl, rfl⟩, .inl ⟨8, by kernel_rfl, rfl, rfl⟩, trivial⟩ (MO_grow (f := eLit) (acc := [litS 1 t]) (ys := [litS 2 u]) (hg := h1) rfl un44 un44 ty68 z68 rfl by68 rfl rfl (.inl rfl) (by simp) (Grow.full _ _ _) (by simp) (by simp)) (fun _ _ ⟨_, _, hG⟩ => hG.le _ _ hrow) rfl (by kernel_rfl) (fun hh hK => ⟨
    ⟨[(8, .ptr b8 0)], ⟨.inr ⟨by kernel_rfl, rfl⟩, trivial⟩, .inl ⟨rfl, PO_fieldAddr_row rfl f46_1 rfl⟩⟩,
    ⟨[(25, .ptr b8 12)], ⟨.inl ⟨0, by kernel_rfl, rfl, rfl⟩, trivial⟩, .inl ⟨rfl, PO_load_row rfl ty44 rfl hK rfl⟩⟩,
    ⟨[(7, .ip (eSlot sx))], ⟨.inr ⟨by kernel_rfl, rfl⟩, trivial⟩, .inl ⟨rfl, PO_load rfl ty41 rfl rfl⟩⟩,
    ⟨[(2, .lit (.string u))], ⟨.inr ⟨by kernel_rfl, rfl⟩, trivial⟩, .inl ⟨rfl, PO_move rfl rfl⟩⟩,
    ⟨[(28, .lit (.string u))], ⟨.inl ⟨3, by kernel_rfl, rfl, rfl⟩, trivial⟩, .inl ⟨rfl, PO_call rfl rfl rfl (iri21_ _ (by first | assumption | omega))⟩⟩,
    ⟨[(7, .ip (eSlot sx))], ⟨.inr ⟨by kernel_rfl, rfl⟩, trivial⟩, .inl ⟨rfl, PO_load rfl ty41 rfl rfl⟩⟩,
    ⟨[(27, .agg (eSlot sx)), (29, .agg (eSlot (iriS u))), (30, .agg (eSlot sx))], ⟨.inl ⟨2, by kernel_rfl, rfl, rfl⟩, .inl ⟨4, by kernel_rfl, rfl, rfl⟩, .inl ⟨5, by kernel_rfl, rfl, rfl⟩, trivial⟩, .inl ⟨rfl, PO_build_arr rfl z43 un43 ty41 rfl rfl⟩⟩,
    ⟨[(31, .agg (ePat ⟨sx, iriS u, sx⟩))], ⟨.inl ⟨6, by kernel_rfl, rfl, rfl⟩, trivial⟩, .inl ⟨rfl, PO_build rfl z68 pl68 rfl rfl⟩⟩,
    ⟨[(32, .agg (eLit (litS 2 u)))], ⟨.inl ⟨7, by kernel_rfl, rfl, rfl⟩, trivial⟩, .inl ⟨rfl, PO_buildSlice (n := 1) (S := 21) (rs := eLit (litS 2 u) ++ []) rfl un44 ty68 z68 rfl rfl rfl (by decide) rfl (by decide)⟩⟩,
    trivial⟩) ⟨.inr ⟨by kernel_rfl, rfl⟩, .inr ⟨by kernel_rfl, rfl⟩, .inr ⟨by kernel_rfl, rfl⟩, .inr ⟨by kernel_rfl, rfl⟩, .inr ⟨by kernel_rfl, rfl⟩, .inr ⟨by kernel_rfl, rfl⟩, .inl ⟨0, by decide, rfl, rfl⟩, .inl ⟨1, by decide, rfl, rfl⟩, .inl ⟨2, by decide, rfl, rfl⟩, .inl ⟨3, by decide, rfl, rfl⟩, .inl ⟨4, by decide, rfl, rfl⟩, .inl ⟨5, by decide, rfl, rfl⟩, .inl ⟨6, by decide, rfl, rfl⟩, .inl ⟨7, by decide, rfl, rfl⟩, .inl ⟨8, by decide, rfl, rfl⟩, trivial⟩ ?_
   rintro _ hq ⟨own2, rfl, hG⟩
   refine qp (v := .ptr b8 12) (PO_fieldAddr_row rfl f46_1 rfl) ?_
   refine AL_storeC (vs := [.sl own2 21 (([litS 1 t] ++ [litS 2 u]).map eLit)]) (b := b8) (off := 12) (cs := setCells zs46 0 (ePat ⟨sx, iriS s, sx⟩ ++ [.sl .full 21 ([litS 1 t].map eLit)])) (v := .sl own2 21 (([litS 1 t] ++ [litS 2 u]).map eLit)) rfl rfl rfl rfl ty44 rfl rfl (hG.le _ _ hrow) rfl rfl (by simp [setCells, ePat]) ?_
   have hrow2 := Heap.upd_same hq b8 (some (.row (setCells (setCells zs46 0 (ePat ⟨sx, iriS s, sx⟩ ++ [.sl .full 21 ([litS 1 t].map eLit)])) 12 [.sl own2 21 (([litS 1 t] ++ [litS 2 u]).map eLit)])))
   have hroB := (Heap.upd_other hq hbb (some (.row (setCells (setCells zs46 0 (ePat ⟨sx, iriS s, sx⟩ ++ [.sl .full 21 ([litS 1 t].map eLit)])) 12 [.sl own2 21 (([litS 1 t] ++ [litS 2 u]).map eLit)])))).trans (hG.le _ _ hroA)
   have hle2 := Heap.le_upd (hle1.trans hG.le) hb8 (some (.row (setCells (setCells zs46 0 (ePat ⟨sx, iriS s, sx⟩ ++ [.sl .full 21 ([litS 1 t].map eLit)])) 12 [.sl own2 21 (([litS 1 t] ++ [litS 2 u]).map eLit)])))
   generalize hq.upd b8 (some (.row (setCells (setCells zs46 0 (ePat ⟨sx, iriS s, sx⟩ ++ [.sl .full 21 ([litS 1 t].map eLit)])) 12 [.sl own2 21 (([litS 1 t] ++ [litS 2 u]).map eLit)]))) = h2 at hrow2 hroB hle2 ⊢
   refine AL_keep [(8,_),(0,_),(1,_),(2,_),(6,_),(7,_)] ⟨rfl,rfl,rfl,rfl,rfl,rfl,trivial⟩ ?_
   refine AL_nil ?_
   exact ⟨(own2, [litS 1 t] ++ [litS 2 u], h2), ⟨hrow2, hroB, hle2, by rw [simpleR, if_pos hc3]; rfl⟩, ⟨rfl, ⟨rfl, rfl, trivial⟩, rfl, rfl, rfl⟩⟩
  ·replace hc3 := of_decide_eq_false hc3
   refine AW_skip ?_
   exact ⟨(.full, [litS 1 t], h1), ⟨hrow, hroA, hle1, by rw [simpleR, if_neg hc3]⟩, ⟨rfl, ⟨rfl, rfl, trivial⟩, rfl, rfl, rfl⟩⟩
 ·rintro ⟨own3, bd, hp⟩ ⟨hro3, hroC, hle3, hbd⟩
  refine AW_seq (AW_region rfl ?_)
  refine qp (v := .agg (ePat ⟨sx, iriS s, sx⟩ ++ [.sl own3 21 (bd.map eLit)])) (PO_load_row rfl ty46 rfl hro3 rfl) ?_
  refine AL_storeC (vs := (ePat ⟨sx, iriS s, sx⟩ ++ [.sl own3 21 (bd.map eLit)])) (b := b) (off := 0) (cs := zs46) (v := .agg (ePat ⟨sx, iriS s, sx⟩ ++ [.sl own3 21 (bd.map eLit)])) rfl rfl rfl rfl ty46 rfl rfl hroC rfl rfl (by simp) ?_
  rw [show setCells zs46 0 (ePat ⟨sx, iriS s, sx⟩ ++ [.sl own3 21 (bd.map eLit)]) = (ePat ⟨sx, iriS s, sx⟩ ++ [.sl own3 21 (bd.map eLit)]) from rfl]
  refine AL_keep [(8,_),(6,_)] ⟨rfl,rfl,trivial⟩ ?_
  refine AL_nil ?_
  refine AW_ghost (ghost_rowW (b := b) (ds := (ePat ⟨sx, iriS s, sx⟩ ++ [.sl own3 21 (bd.map eLit)])) (ds' := eRule (simpleR s t u)) (Heap.upd_same _ _ _) rfl fun i x y hx hy => ?_) ?_
  ·have her : eRule (simpleR s t u) = ePat ⟨sx, iriS s, sx⟩ ++ [.sl .any 21 (bd.map eLit)] := by rw [hbd]; rfl
   rw [her] at hy
   rcases Nat.lt_or_ge i 12 with c | c
   ·rw [List.getElem?_append_left c] at hx hy; rw [hx] at hy; injection hy with hy; subst hy; exact ⟨id, fun _ _ => id⟩
   ·rw [List.getElem?_append_right c] at hx hy
    have hi : i - (ePat ⟨sx, iriS s, sx⟩).length = 0 := by have := (List.getElem?_eq_some_iff.1 hx).1; simpa using this
    rw [hi] at hx hy; injection hx with hx; injection hy with hy; subst hx; subst hy; exact ⟨fun _ => rfl, fun _ _ => VR.any⟩
  refine AW_ret ?_
  exact ret_G (.inl rfl) (Results.cell rfl ty46 rfl (Heap.upd_same _ _ _) rfl) rfl (Heap.le_upd (Heap.le_upd hle3 hb _) hb _) (by simp)
end Go.AM.Tryd
end
section
set_option maxRecDepth 100000
set_option linter.unusedVariables false
set_option linter.unusedSimpArgs false
namespace Go.AM.Tryd
open Go Go.AM Go.AM.D
abbrev sp : ByteArray := ⟨#[112]⟩
abbrev se : ByteArray := ⟨#[101]⟩
abbrev sq : ByteArray := ⟨#[113]⟩
abbrev sr : ByteArray := ⟨#[114]⟩
abbrev k1L : List Rule := [simpleR sp se sq, simpleR sq sr ⟨#[]⟩]
abbrev k2L : List Rule := [simpleR sp se sp]
theorem k1_out : (seeG k1L).out = [[⟨1, true⟩], []] := by decide +kernel
theorem k2_out : (seeG k2L).out = [[⟨0, true⟩]] := by decide +kernel
theorem k1_num : numV (clP (seeG k1L).out) (predF k1L []).length = some [2, 1] := by
  rw [k1_out, show (predF k1L []).length = 2 by decide +kernel]
  refine numV_some ⟨⟨rfl, fun j hj => ?_⟩, fun j hj => ?_, fun i es he e hm => ?_, fun ms hm hc j hj => ?_⟩
  · rcases j with _ | _ | j
    · decide
    · decide
    · omega
  · rcases j with _ | _ | j
    · decide
    · decide
    · omega
  · rcases i with _ | _ | i
    · injection he with he; subst he
      rw [List.mem_singleton] at hm; subst hm
      simp [eok]
    · injection he with he; subst he; cases hm
    · simp at he
  · have h1 := hm.2 1 (by omega)
    have h2 : ms.getD 1 0 + 1 ≤ ms.getD 0 0 := hc 0 _ rfl ⟨1, true⟩ (List.mem_singleton.2 rfl)
    rcases j with _ | _ | j
    · show (2 : Int) ≤ _; omega
    · exact h1
    · omega
theorem k2_num : numV (clP (seeG k2L).out) (predF k2L []).length = none := by
  rw [numV, dif_neg]
  rintro ⟨ns, h⟩
  have h2 : ns.getD 0 0 + 1 ≤ ns.getD 0 0 := by
    have := h.cl
    rw [k2_out] at this
    exact this 0 _ rfl ⟨0, true⟩ (List.mem_singleton.2 rfl)
  omega
theorem k1_find : findN k1L = ([2, 1], 0) := by
  rw [findN, if_neg (by rw [show progU k1L = 0 by decide +kernel]; simp), if_neg (by rw [show negF k1L = true by decide +kernel]; simp), k1_num]; rfl
theorem k2_find : findN k2L = ([], 6) := by
  rw [findN, if_neg (by rw [show progU k2L = 0 by decide +kernel]; simp), if_neg (by rw [show negF k2L = true by decide +kernel]; simp), k2_num]; rfl
theorem k1_lay : layU k1L = ([[1], [0]], 0) := by
  have h1 : stU k1L (simpleR sp se sq) = 2 := by
    rw [stU, k1_find]; decide +kernel
  have h2 : stU k1L (simpleR sq sr ⟨#[]⟩) = 1 := by
    rw [stU, k1_find]; decide +kernel
  rw [layU, k1_find, if_neg (by simp)]
  simp only [laysF, h1, h2]
  decide
theorem k2_lay : layU k2L = ([], 6) := by
  rw [layU, k2_find, if_pos (by simp)]
theorem okT_of {t : Term} (h : t.text.size ≤ 1048576 ∧ t.extra.size ≤ 1048576) : okT t := h
theorem okS_sx : okS sx := by unfold okS okT; decide +kernel
theorem okS_iri {s : ByteArray} (h : s.size ≤ 1048000) : okS (iriS s) := by
  refine ⟨Nat.zero_le _, ?_, Nat.zero_le _⟩
  have : (httpB ++ s).size = httpB.size + s.size := ByteArray.size_append
  show (httpB ++ s).size ≤ 1048576
  rw [this, show httpB.size = 7 from rfl]; omega
theorem okL_lit {k : Int} {s : ByteArray} (h : s.size ≤ 1048000) : okL (litS k s) := by
  refine ⟨⟨okS_sx, okS_iri h, okS_sx⟩, ?_, ?_⟩
  · exact ⟨Nat.zero_le _, Nat.zero_le _, Nat.zero_le _⟩
  · exact ⟨Nat.zero_le _, Nat.zero_le _, Nat.zero_le _⟩
theorem okR_simple {a b c : ByteArray} (ha : a.size ≤ 1048000) (hb : b.size ≤ 1048000) (hc : c.size ≤ 1048000) : okR (simpleR a b c) := by
  refine ⟨⟨okS_sx, okS_iri ha, okS_sx⟩, ?_, fun l hl => ?_⟩
  · simp only [simpleR]; split <;> simp
  · simp only [simpleR] at hl
    rcases List.mem_cons.1 hl with rfl | hl
    · exact okL_lit hb
    · split at hl
      · rw [List.mem_singleton] at hl; subst hl; exact okL_lit hc
      · cases hl
theorem k1_ok : okRs k1L := ⟨by decide, fun r hr => by
  rcases List.mem_cons.1 hr with rfl | hr
  · exact okR_simple (by decide) (by decide) (by decide)
  · rw [List.mem_singleton] at hr; subst hr; exact okR_simple (by decide) (by decide) (by decide)⟩
theorem k2_ok : okRs k2L := ⟨by decide, fun r hr => by
  rw [List.mem_singleton] at hr; subst hr; exact okR_simple (by decide) (by decide) (by decide)⟩
theorem k1_bods : bods k1L ≤ 1048576 := by decide +kernel
theorem k2_bods : bods k2L ≤ 1048576 := by decide +kernel
end Go.AM.Tryd
end
section
set_option maxRecDepth 100000
set_option linter.unusedVariables false
set_option linter.unusedSimpArgs false
namespace Go.AM.Tryd
open Go Go.AM Go.AM.D
theorem known_  : PFn PR (.fn (.func 7) [] []) [] (.lit (.bool true)) := by
 refine PFn_of Go.Proofs.Tryd.func7 rfl (by rfl) Go.Proofs.Tryd.ntmps7 rfl (by simp) fun h => ?_
 refine AW_seq (AW_region rfl ?_)
 refine qa (v := vb false) ?_
 refine AL_nil (AW_seq (AW_region rfl ?_))
 refine qp (v := .agg (eRule (simpleR ⟨#[112]⟩ ⟨#[101]⟩ ⟨#[113]⟩))) (PO_call rfl rfl rfl (simple14_ _ _ _ (by first | assumption | decide) (by first | assumption | decide) (by first | assumption | decide))) ?_
 refine qp (v := .agg (eRule (simpleR ⟨#[113]⟩ ⟨#[114]⟩ ⟨#[]⟩))) (PO_call rfl rfl rfl (simple14_ _ _ _ (by first | assumption | decide) (by first | assumption | decide) (by first | assumption | decide))) ?_
 refine qp (v := vR k1L) (PO_any (PO_buildSlice (n := 2) (S := 13) (rs := eRule (simpleR sp se sq) ++ (eRule (simpleR sq sr ⟨#[]⟩) ++ [])) rfl un22 ty46 z46 rfl rfl rfl (by decide) rfl (by decide)) rfl) ?_
 refine qp (v := .tup [.sl .any 1 (([[1], [0]] : List (List Int)).map (fun l => [.sl .any 1 (l.map eI64)])), .lit (.int .i64 0)]) (PO_eqA (PO_call rfl rfl rfl (layers_ k1L k1_ok k1_bods)) (by rw [k1_lay])) ?_
 refine qm ?_
 refine qp (v := .sl .any 1 (([[1], [0]] : List (List Int)).map (fun l => [.sl .any 1 (l.map eI64)]))) (PO_extract rfl rfl rfl) ?_
 refine qp (v := vi 0) (PO_extract rfl rfl rfl) ?_
 refine qa ?_
 refine qa (v := vi 0) ?_
 refine AL_keep [(0,_),(1,_),(2,_)] ⟨rfl,rfl,rfl,trivial⟩ ?_
 refine AL_nil (AW_seq (AW_region rfl ?_))
 refine qp (v := .agg (eRule (simpleR ⟨#[112]⟩ ⟨#[101]⟩ ⟨#[112]⟩))) (PO_call rfl rfl rfl (simple14_ _ _ _ (by first | assumption | decide) (by first | assumption | decide) (by first | assumption | decide))) ?_
 refine qp (v := vR k2L) (PO_any (PO_buildSlice (n := 1) (S := 13) (rs := eRule (simpleR sp se sp) ++ []) rfl un22 ty46 z46 rfl rfl rfl (by decide) rfl (by decide)) rfl) ?_
 refine qp (v := .tup [.sl .any 1 (([] : List (List Int)).map (fun l => [.sl .any 1 (l.map eI64)])), .lit (.int .i64 6)]) (PO_eqA (PO_call rfl rfl rfl (layers_ k2L k2_ok k2_bods)) (by rw [k2_lay])) ?_
 refine qm ?_
 refine qp (v := .sl .any 1 (([] : List (List Int)).map (fun l => [.sl .any 1 (l.map eI64)]))) (PO_extract rfl rfl rfl) ?_
 refine qp (v := vi 6) (PO_extract rfl rfl rfl) ?_
 refine qa ?_
 refine qa (v := vi 6) ?_
 refine AL_keep [(0,_),(1,_),(2,_),(4,_)] ⟨rfl,rfl,rfl,rfl,trivial⟩ ?_
 refine AL_nil (AW_seq (AW_region rfl ?_))
 refine qm (v := vi 0) ?_
 refine qp (v := vb true) (PO_eqv (PO_int rfl rfl rfl rfl trivial) rfl) ?_
 refine qm (v := vb true) ?_
 refine gm ?_
 refine qg (v := vi 2) (PO_eqI (PO_lenM rfl un28 rfl) rfl) ?_
 refine qg (v := vb true) (PO_eqv (PO_int rfl rfl rfl rfl trivial) rfl) ?_
 refine qk ?_
 refine qm (v := vb true) ?_
 refine gm ?_
 refine qg (v := .ip ((fun l => [.sl .any 1 (l.map eI64)]) [1])) (PO_indexAddr rfl un28 ty32 rfl rfl (by first | decide | omega) rfl) ?_
 refine qg (v := .sl .any 1 ([1].map eI64)) (PO_load rfl ty32 rfl rfl) ?_
 refine qg (v := vi 1) (PO_eqI (PO_lenM rfl un32 rfl) rfl) ?_
 refine qg (v := vb true) (PO_eqv (PO_int rfl rfl rfl rfl trivial) rfl) ?_
 refine qk ?_
 refine qm (v := vb true) ?_
 refine gm ?_
 refine qg (v := .ip ((fun l => [.sl .any 1 (l.map eI64)]) [1])) (PO_indexAddr rfl un28 ty32 rfl rfl (by first | decide | omega) rfl) ?_
 refine qg (v := .sl .any 1 ([1].map eI64)) (PO_load rfl ty32 rfl rfl) ?_
 refine qg (v := .ip (eI64 1)) (PO_indexAddr rfl un32 ty3 rfl rfl (by first | decide | omega) rfl) ?_
 refine qg (v := vi 1) (PO_load rfl ty3 rfl rfl) ?_
 refine qg (v := vb true) (PO_eqv (PO_int rfl rfl rfl rfl trivial) rfl) ?_
 refine qk ?_
 refine qm (v := vb true) ?_
 refine gm ?_
 refine qg (v := .ip ((fun l => [.sl .any 1 (l.map eI64)]) [0])) (PO_indexAddr rfl un28 ty32 rfl rfl (by first | decide | omega) rfl) ?_
 refine qg (v := .sl .any 1 ([0].map eI64)) (PO_load rfl ty32 rfl rfl) ?_
 refine qg (v := vi 1) (PO_eqI (PO_lenM rfl un32 rfl) rfl) ?_
 refine qg (v := vb true) (PO_eqv (PO_int rfl rfl rfl rfl trivial) rfl) ?_
 refine qk ?_
 refine qm (v := vb true) ?_
 refine gm ?_
 refine qg (v := .ip ((fun l => [.sl .any 1 (l.map eI64)]) [0])) (PO_indexAddr rfl un28 ty32 rfl rfl (by first | decide | omega) rfl) ?_
 refine qg (v := .sl .any 1 ([0].map eI64)) (PO_load rfl ty32 rfl rfl) ?_
 refine qg (v := .ip (eI64 0)) (PO_indexAddr rfl un32 ty3 rfl rfl (by first | decide | omega) rfl) ?_
 refine qg (v := vi 0) (PO_load rfl ty3 rfl rfl) ?_
 refine qg (v := vb true) (PO_eqv (PO_int rfl rfl rfl rfl trivial) rfl) ?_
 refine qk ?_
 refine qm (v := vb true) ?_
 refine gm (v := vi 6) ?_
 refine qg (v := vb true) (PO_eqv (PO_int rfl rfl rfl rfl trivial) rfl) ?_
 refine qk ?_
 refine qa (v := vb true) ?_
 refine AL_keep [(0,_),(1,_),(2,_),(4,_)] ⟨rfl,rfl,rfl,rfl,trivial⟩ ?_
 refine AL_nil ?_
 refine AW_ret ?_
 exact ret_le2 (.inl rfl) rfl (by rfl) (.refl _)
end Go.AM.Tryd
end
section
set_option linter.unusedVariables false
set_option linter.unusedSimpArgs false
namespace Go.AM.Tryd
open Go Go.AM Go.AM.D
def mxF (v : Rule → Int) : List Rule → Int → Int
  | [], m => m
  | r :: l, m => mxF v l (if v r > m then v r else m)
def ixF (v : Rule → Int) (s : Int) : Int → List Rule → List Int
  | _, [] => []
  | i, r :: l => if v r = s then i :: ixF v s (i + 1) l else ixF v s (i + 1) l
theorem padL_len (o : List (List Int)) (k : Nat) : (padL o k).length = max o.length k := by
  rw [padL, List.length_append, List.length_replicate]; omega
theorem putL_len (o : List (List Int)) (k : Nat) (i : Int) : (putL o k i).length = max o.length k := by
  rw [putL, List.length_set, padL_len]
theorem padL_get (o : List (List Int)) (k s : Nat) : (padL o k).getD s [] = o.getD s [] := by
  simp only [padL, List.getD_eq_getElem?_getD]
  rcases Nat.lt_or_ge s o.length with c | c
  · rw [List.getElem?_append_left c]
  · rw [List.getElem?_append_right c, List.getElem?_replicate, List.getElem?_eq_none c]; split <;> rfl
theorem putL_get (o : List (List Int)) {k : Nat} (hk : 1 ≤ k) (i : Int) (s : Nat) : (putL o k i).getD s [] = o.getD s [] ++ if s + 1 = k then [i] else [] := by
  have hl : k - 1 < (padL o k).length := by rw [padL_len]; omega
  have hg := padL_get o k s
  rw [putL, List.getD_eq_getElem?_getD, List.getElem?_set]
  by_cases h : k - 1 = s
  · subst h
    rw [if_pos rfl, if_pos hl, if_pos (by omega), ← hg]; rfl
  · rw [if_neg h, if_neg (by omega), List.append_nil, ← List.getD_eq_getElem?_getD]; exact hg
theorem laysF_len (v : Rule → Int) : ∀ (l : List Rule) (i : Int) (o : List (List Int)), (∀ r ∈ l, 1 ≤ v r) → ((laysF v i l o).length : Int) = mxF v l o.length
  | [], i, o, h => rfl
  | r :: l, i, o, h => by
    have h1 := h r (List.mem_cons_self ..)
    rw [laysF, laysF_len v l (i + 1) _ (fun x hx => h x (List.mem_cons_of_mem _ hx)), mxF, putL_len]
    congr 1
    split <;> omega
theorem laysF_get (v : Rule → Int) (s : Nat) : ∀ (l : List Rule) (i : Int) (o : List (List Int)), (∀ r ∈ l, 1 ≤ v r) → (laysF v i l o).getD s [] = o.getD s [] ++ ixF v ((s + 1 : Nat) : Int) i l
  | [], i, o, h => by simp [laysF, ixF]
  | r :: l, i, o, h => by
    have h1 := h r (List.mem_cons_self ..)
    rw [laysF, laysF_get v s l (i + 1) _ (fun x hx => h x (List.mem_cons_of_mem _ hx)), putL_get o (by omega) i s, ixF, List.append_assoc]
    congr 1
    by_cases hc : v r = ((s + 1 : Nat) : Int)
    · rw [if_pos hc, if_pos (by omega)]; rfl
    · rw [if_neg hc, if_neg (by omega)]; rfl
theorem lay_len {l : List Rule} (hz : (findN l).2 = 0) : (((layU l).1.length : Nat) : Int) = mxF (stU l) l 0 := by
  rw [layU, if_neg (by simp [hz])]
  exact laysF_len (stU l) l 0 [] fun r hr => (stU_ok hz hr).1
theorem lay_get {l : List Rule} (hz : (findN l).2 = 0) {s : Nat} (hs : s < (layU l).1.length) : (layU l).1[s]? = some (ixF (stU l) ((s + 1 : Nat) : Int) 0 l) := by
  have h := laysF_get (stU l) s l 0 [] fun r hr => (stU_ok hz hr).1
  have e : layU l = (laysF (stU l) 0 l [], 0) := by rw [layU, if_neg (by simp [hz])]
  rw [e] at hs ⊢
  simp only [List.getD_eq_getElem?_getD, List.getElem?_eq_getElem hs, Option.getD_some] at h
  rw [List.getElem?_eq_getElem hs, h]
  simp
theorem lay_err (l : List Rule) : (layU l).2 = (findN l).2 := by
  rw [layU]; split
  · rfl
  · rename_i h; simp only [Decidable.not_not] at h; exact h.symm
theorem lay_none {l : List Rule} (h : (findN l).2 ≠ 0) : (layU l).1 = [] := by rw [layU, if_pos h]
theorem number_err (l : List Rule) (t : Term) : (numberU l t).2 = (findN l).2 := by
  rw [numberU]; split
  · rfl
  · rename_i h; simp only [Decidable.not_not] at h; split <;> exact h.symm
theorem number_none {l : List Rule} {t : Term} (h : (findN l).2 ≠ 0) : (numberU l t).1 = 0 := by rw [numberU, if_pos h]
theorem number_at {l : List Rule} {t : Term} (hz : (findN l).2 = 0) : (numberU l t).1 = if atF t (predF l []) 0 ≥ 0 then (findN l).1.getD (atF t (predF l []) 0).toNat 0 else 0 := by
  rw [numberU, if_neg (by simp [hz]), lookB, lookI]
  by_cases h : atF t (predF l []) 0 ≥ 0 <;> simp [h]
theorem number_st {l : List Rule} {r : Rule} (hz : (findN l).2 = 0) (hm : r ∈ l) (hv : r.head.b.var = ⟨#[]⟩) : (numberU l r.head.b.term).1 = stU l r := by
  rw [numberU, if_neg (by simp [hz]), if_pos (look_has hm hv), stU, if_pos hv]
theorem st_at {l : List Rule} {r : Rule} (hm : r ∈ l) (hv : r.head.b.var = ⟨#[]⟩) : 0 ≤ atF r.head.b.term (predF l []) 0 ∧ (atF r.head.b.term (predF l []) 0).toNat < (predF l []).length ∧ stU l r = (findN l).1.getD (atF r.head.b.term (predF l []) 0).toNat 0 := by
  have h := lookI_lt (predF_has (acc := []) hm hv)
  rw [stU, if_pos hv]
  refine ⟨by omega, by omega, by rw [h.2.2]⟩
theorem few_bods : ∀ {l : List Rule}, fewF l = true → bods l ≤ 20 * l.length
  | [], _ => by simp [bods]
  | r :: l, h => by
    rw [fewF] at h
    split at h
    · cases h
    · have := few_bods h
      simp only [bods, List.length_cons]; omega
theorem row_set {l : List Rule} {f : Rule → Int} {i : Nat} {r : Rule} (hr : l[i]? = some r) : ((l.take i).map f ++ List.replicate (l.length - i) 0).set i (f r) = (l.take (i + 1)).map f ++ List.replicate (l.length - (i + 1)) 0 := by
  obtain ⟨hi, rfl⟩ := List.getElem?_eq_some_iff.1 hr
  have h1 : ((l.take i).map f).length = i := by simp; omega
  rw [List.set_append_right _ _ (by omega), h1, Nat.sub_self, show l.length - i = (l.length - (i + 1)) + 1 by omega, List.replicate_succ, List.set_cons_zero, List.take_add_one, List.getElem?_eq_getElem hi]
  simp only [List.map_append, Option.toList_some, List.map_cons, List.map_nil, List.append_assoc, List.cons_append, List.nil_append]
theorem row_len {l : List Rule} {f : Rule → Int} {i : Nat} (h : i ≤ l.length) : ((l.take i).map f ++ List.replicate (l.length - i) 0).length = l.length := by simp; omega
theorem row_get {l : List Rule} {f : Rule → Int} {i : Nat} {r : Rule} (hr : l[i]? = some r) : (l.map f).getD i 0 = f r := by
  rw [List.getD_eq_getElem?_getD, List.getElem?_map, hr]; rfl
theorem drop_cons_get {α : Type} {l m : List α} {k : Nat} {x : α} (h : l.drop k = x :: m) : l[k]? = some x ∧ k < l.length ∧ l.drop (k + 1) = m := by
  have h1 : l[k]? = some x := by rw [← List.head?_drop, h]; rfl
  exact ⟨h1, (List.getElem?_eq_some_iff.1 h1).1, by rw [← List.tail_drop, h]; rfl⟩
theorem ixF_le (v : Rule → Int) (s : Int) : ∀ (l : List Rule) (i : Int), (ixF v s i l).length ≤ l.length
  | [], i => by simp [ixF]
  | r :: l, i => by
    rw [ixF]
    have := ixF_le v s l (i + 1)
    split
    · simp only [List.length_cons]; omega
    · simp only [List.length_cons]; omega
theorem mxF_le {v : Rule → Int} {B : Int} : ∀ {l : List Rule} {m : Int}, (∀ r ∈ l, v r ≤ B) → m ≤ B → mxF v l m ≤ B
  | [], m, _, h => h
  | r :: l, m, hv, h => by
    rw [mxF]
    refine mxF_le (fun x hx => hv x (List.mem_cons_of_mem _ hx)) ?_
    split
    · exact hv r (List.mem_cons_self ..)
    · exact h
theorem lay_le {l : List Rule} (hz : (findN l).2 = 0) : (layU l).1.length ≤ l.length := by
  have h1 := lay_len hz
  have h2 : mxF (stU l) l 0 ≤ l.length := mxF_le (fun r hr => (stU_ok hz hr).2) (by omega)
  omega
end Go.AM.Tryd
end
section
set_option maxRecDepth 100000
set_option linter.unusedVariables false
set_option linter.unusedSimpArgs false
namespace Go.AM.Tryd
open Go Go.AM Go.AM.D
theorem iget {l : List Int} {i : Int} (h : i.toNat < l.length) : (l.map eI64)[i.toNat]? = some (eI64 (l.getD i.toNat 0)) := by
 rw [List.getElem?_map, List.getD_eq_getElem?_getD, List.getElem?_eq_getElem h]; rfl
theorem law3_ (l : List Rule) (t : Term) (hl : okRs l) (hlaw : (fewF l && decide (l.length ≤ 16)) = true → findN l = refN l) : PFn PR (.fn (.func 3) [] []) [.sl .any 13 (l.map eRule), .agg (eTerm t)] (.lit (.bool true)) := by
 have hl1 := hl.1
 refine PFn_of Go.Proofs.Tryd.func3 rfl (by rfl) Go.Proofs.Tryd.ntmps3 rfl (by simp) fun h => ?_
 refine AW_seq (AW_region rfl ?_)
 refine qp (v := .ip (eTerm t)) (PO_boxA rfl rfl) ?_
 refine qa (v := vb false) ?_
 refine AL_nil (AW_seq (AW_seq (AW_region rfl ?_)))
 refine qm ?_
 refine qp (v := vb (fewF l && decide (l.length ≤ 16))) (PO_call rfl rfl rfl (few_ _ (by first | assumption | omega))) ?_
 refine qp (v := vb (!(fewF l && decide (l.length ≤ 16)))) (PO_not (b := (fewF l && decide (l.length ≤ 16))) rfl rfl) ?_
 refine AL_keep [(0,_),(1,_),(3,_),(4,_),(24,_)] ⟨rfl,rfl,rfl,rfl,rfl,trivial⟩ ?_
 refine AL_nil ?_
 refine AW_cond _ rfl (fun hc1 => ?_) (fun hc1 => ?_)
 ·refine AW_seq (AW_region rfl ?_)
  refine qp (v := vb true) (PO_call rfl rfl rfl known_) ?_
  refine qa (v := vb true) ?_
  refine AL_keep [(0,_),(1,_),(3,_),(4,_)] ⟨rfl,rfl,rfl,rfl,trivial⟩ ?_
  refine AL_nil ?_
  refine AW_ret ?_
  exact ret_le2 (.inl rfl) rfl (by rfl) (.refl _)
 ·have hfew : (fewF l && decide (l.length ≤ 16)) = true := by simpa using hc1
  have hf2 := hfew
  rw [Bool.and_eq_true, decide_eq_true_eq] at hf2
  have h16 := hf2.2
  have hbods : bods l ≤ 1048576 := by have := few_bods hf2.1; omega
  have hN := hlaw hfew
  have e1 := lay_err l
  have e2 := number_err l t
  have hPl := predF_len l []
  simp only [List.length_nil, Nat.zero_add] at hPl
  refine AW_skip (AW_seq (AW_region rfl ?_))
  refine qm ?_
  refine qp (v := .tup [.sl .any 1 (((layU l).1).map (fun l => [.sl .any 1 (l.map eI64)])), .lit (.int .i64 ((layU l).2))]) (PO_call rfl rfl rfl (layers_ _ (by assumption) (by assumption))) ?_
  refine qm ?_
  refine qp (v := .sl .any 1 (((layU l).1).map (fun l => [.sl .any 1 (l.map eI64)]))) (PO_extract rfl rfl rfl) ?_
  refine qp (v := vi ((layU l).2)) (PO_extract rfl rfl rfl) ?_
  refine qa ?_
  refine qa ?_
  refine AL_keep [(0,_),(1,_),(3,_),(4,_),(5,_),(6,_)] ⟨rfl,rfl,rfl,rfl,rfl,rfl,trivial⟩ ?_
  refine AL_nil (AW_seq (AW_region rfl ?_))
  refine qm ?_
  refine qp (v := .tup [.sl .any 1 (((refN l).1).map eI64), .lit (.int .i64 ((refN l).2))]) (PO_call rfl rfl rfl (refnum_ _ (by assumption) (by omega))) ?_
  refine qm ?_
  refine qp (v := .sl .any 1 (((refN l).1).map eI64)) (PO_extract rfl rfl rfl) ?_
  refine qp (v := vi ((refN l).2)) (PO_extract rfl rfl rfl) ?_
  refine qa ?_
  refine qa ?_
  refine AL_keep [(0,_),(1,_),(3,_),(4,_),(5,_),(6,_),(7,_),(8,_)] ⟨rfl,rfl,rfl,rfl,rfl,rfl,rfl,rfl,trivial⟩ ?_
  refine AL_nil (AW_seq (AW_region rfl ?_))
  refine qp (v := .agg (eTerm t)) (PO_load rfl ty25 rfl rfl) ?_
  refine qm ?_
  refine qp (v := .tup [.lit (.int .i64 ((numberU l t).1)), .lit (.int .i64 ((numberU l t).2))]) (PO_call rfl rfl rfl (number_ _ _ (by assumption) (by assumption))) ?_
  refine qm ?_
  refine qp (v := vi ((numberU l t).1)) (PO_extract rfl rfl rfl) ?_
  refine qp (v := vi ((numberU l t).2)) (PO_extract rfl rfl rfl) ?_
  refine qa ?_
  refine qa ?_
  refine AL_keep [(0,_),(1,_),(3,_),(4,_),(5,_),(6,_),(7,_),(8,_),(9,_),(10,_)] ⟨rfl,rfl,rfl,rfl,rfl,rfl,rfl,rfl,rfl,rfl,trivial⟩ ?_
  refine AL_nil (AW_seq (AW_seq (AW_region rfl ?_)))
  refine qm ?_
  refine qm ?_
  refine qp (v := vb (decide (((layU l).2 : Int) ≠ (refN l).2))) pI ?_
  refine qm ?_
  refine AL_jk 4 49 (vb ((decide (((layU l).2 : Int) ≠ (refN l).2)) || (decide (((numberU l t).2 : Int) ≠ (refN l).2)))) [(0,_),(1,_),(3,_),(4,_),(5,_),(6,_),(7,_),(8,_),(9,_),(10,_),(42,_),(43,_),(44,_),(45,_)] ⟨rfl,rfl,rfl,rfl,rfl,rfl,rfl,rfl,rfl,rfl,rfl,rfl,rfl,rfl,trivial⟩ ?_ ?_
  ·refine AL_split 45 _ rfl (fun hg45 => ?_) (fun hg45 => ?_)
   ·refine qz ?_
    refine qz ?_
    refine qz ?_
    refine qk ?_
    refine AL_say (k := 49) (vb ((decide (((layU l).2 : Int) ≠ (refN l).2)) || (decide (((numberU l t).2 : Int) ≠ (refN l).2)))) rfl (by rw [hg45]; rfl) ?_
    refine AL_say (k := 45) (vb (decide (((layU l).2 : Int) ≠ (refN l).2))) rfl (by rw [hg45]) ?_
    exact nl ⟨rfl,rfl,rfl,rfl,rfl,rfl,rfl,rfl,rfl,rfl,rfl,rfl,rfl,rfl,rfl,trivial⟩
   ·refine gm ?_
    refine gm ?_
    refine qg (v := vb (decide (((numberU l t).2 : Int) ≠ (refN l).2))) pI ?_
    refine qk ?_
    refine AL_say (k := 49) (vb ((decide (((layU l).2 : Int) ≠ (refN l).2)) || (decide (((numberU l t).2 : Int) ≠ (refN l).2)))) rfl (by rw [hg45]; rfl) ?_
    refine AL_say (k := 45) (vb (decide (((layU l).2 : Int) ≠ (refN l).2))) rfl (by rw [hg45]) ?_
    exact nl ⟨rfl,rfl,rfl,rfl,rfl,rfl,rfl,rfl,rfl,rfl,rfl,rfl,rfl,rfl,rfl,trivial⟩
  ·refine AL_keep [(49,_),(0,_),(1,_),(3,_),(4,_),(5,_),(6,_),(7,_),(8,_),(9,_),(10,_)] ⟨rfl,rfl,rfl,rfl,rfl,rfl,rfl,rfl,rfl,rfl,rfl,trivial⟩ ?_
   refine AL_nil ?_
   refine AW_cond _ rfl (fun hc6 => ?_) (fun hc6 => ?_)
   ·rw [e1, e2, hN] at hc6
    simp at hc6
   ·refine AW_skip (AW_seq (AW_seq (AW_region rfl ?_)))
    refine qm ?_
    refine qp (v := vb (decide (((refN l).2 : Int) ≠ 0))) pI ?_
    refine AL_keep [(0,_),(1,_),(3,_),(4,_),(5,_),(6,_),(7,_),(8,_),(9,_),(10,_),(51,_)] ⟨rfl,rfl,rfl,rfl,rfl,rfl,rfl,rfl,rfl,rfl,rfl,trivial⟩ ?_
    refine AL_nil ?_
    refine AW_cond _ rfl (fun hc8 => ?_) (fun hc8 => ?_)
    ·replace hc8 := of_decide_eq_true hc8
     have hze : (findN l).2 ≠ 0 := by rw [hN]; exact hc8
     refine AW_seq (AW_region rfl ?_)
     refine qm ?_
     refine qp (v := vi (((layU l).1).length : Int)) (PO_lenM rfl un28 rfl) ?_
     refine qp (v := vb (decide (((((layU l).1).length : Int) : Int) = 0))) pI ?_
     refine qm ?_
     refine AL_jk 3 58 (vb ((decide (((((layU l).1).length : Int) : Int) = 0)) && (decide (((numberU l t).1 : Int) = 0)))) [(0,_),(1,_),(3,_),(4,_),(5,_),(6,_),(7,_),(8,_),(9,_),(10,_),(52,_),(53,_),(54,_),(55,_)] ⟨rfl,rfl,rfl,rfl,rfl,rfl,rfl,rfl,rfl,rfl,rfl,rfl,rfl,rfl,trivial⟩ ?_ ?_
     ·refine AL_split 55 _ rfl (fun hg55 => ?_) (fun hg55 => ?_)
      ·refine gm ?_
       refine qg (v := vb (decide (((numberU l t).1 : Int) = 0))) pI ?_
       refine qk ?_
       refine AL_say (k := 58) (vb ((decide (((((layU l).1).length : Int) : Int) = 0)) && (decide (((numberU l t).1 : Int) = 0)))) rfl (by rw [hg55]; rfl) ?_
       refine AL_say (k := 55) (vb (decide (((((layU l).1).length : Int) : Int) = 0))) rfl (by rw [hg55]) ?_
       exact nl ⟨rfl,rfl,rfl,rfl,rfl,rfl,rfl,rfl,rfl,rfl,rfl,rfl,rfl,rfl,rfl,trivial⟩
      ·refine qz ?_
       refine qz ?_
       refine qk ?_
       refine AL_say (k := 58) (vb ((decide (((((layU l).1).length : Int) : Int) = 0)) && (decide (((numberU l t).1 : Int) = 0)))) rfl (by rw [hg55]; rfl) ?_
       refine AL_say (k := 55) (vb (decide (((((layU l).1).length : Int) : Int) = 0))) rfl (by rw [hg55]) ?_
       exact nl ⟨rfl,rfl,rfl,rfl,rfl,rfl,rfl,rfl,rfl,rfl,rfl,rfl,rfl,rfl,rfl,trivial⟩
     ·refine qm ?_
      refine AL_jk 2 61 (vb (((decide (((((layU l).1).length : Int) : Int) = 0)) && (decide (((numberU l t).1 : Int) = 0))) && true)) [(58,_),(0,_),(1,_),(3,_),(4,_),(5,_),(6,_),(7,_),(8,_),(9,_),(10,_),(52,_),(53,_),(54,_),(55,_),(59,_)] ⟨rfl,rfl,rfl,rfl,rfl,rfl,rfl,rfl,rfl,rfl,rfl,rfl,rfl,rfl,rfl,rfl,trivial⟩ ?_ ?_
      ·refine AL_split 59 _ rfl (fun hg59 => ?_) (fun hg59 => ?_)
       ·refine qg (v := vb true) (PO_call rfl rfl rfl known_) ?_
        refine qk ?_
        refine AL_say (k := 61) (vb (((decide (((((layU l).1).length : Int) : Int) = 0)) && (decide (((numberU l t).1 : Int) = 0))) && true)) rfl (by rw [hg59]; rfl) ?_
        refine AL_say (k := 59) (vb ((decide (((((layU l).1).length : Int) : Int) = 0)) && (decide (((numberU l t).1 : Int) = 0)))) rfl (by rw [hg59]) ?_
        exact nl ⟨rfl,rfl,rfl,rfl,rfl,rfl,rfl,rfl,rfl,rfl,rfl,rfl,rfl,rfl,rfl,rfl,rfl,trivial⟩
       ·refine qz ?_
        refine qk ?_
        refine AL_say (k := 61) (vb (((decide (((((layU l).1).length : Int) : Int) = 0)) && (decide (((numberU l t).1 : Int) = 0))) && true)) rfl (by rw [hg59]; rfl) ?_
        refine AL_say (k := 59) (vb ((decide (((((layU l).1).length : Int) : Int) = 0)) && (decide (((numberU l t).1 : Int) = 0)))) rfl (by rw [hg59]) ?_
        exact nl ⟨rfl,rfl,rfl,rfl,rfl,rfl,rfl,rfl,rfl,rfl,rfl,rfl,rfl,rfl,rfl,rfl,rfl,trivial⟩
      ·refine qa ?_
       refine AL_keep [(0,_),(1,_),(3,_),(4,_),(5,_),(6,_),(7,_),(8,_),(9,_),(10,_)] ⟨rfl,rfl,rfl,rfl,rfl,rfl,rfl,rfl,rfl,rfl,trivial⟩ ?_
       refine AL_nil ?_
       refine AW_ret ?_
       exact ret_le2 (.inl rfl) rfl (by rw [lay_none hze, number_none hze]; rfl) (.refl _)
    ·replace hc8 := of_decide_eq_false hc8
     have hz : (findN l).2 = 0 := by rw [hN]; simpa using hc8
     have hfv := findN_vals hz
     rw [hN] at hfv
     have hfl := hfv.1.1
     refine AW_skip (AW_seq (AW_region rfl ?_))
     refine qm ?_
     refine qp (v := vT (predF l [])) (PO_call rfl rfl rfl (pred_ _ (by first | assumption | omega))) ?_
     refine qa ?_
     refine AL_keep [(0,_),(1,_),(3,_),(4,_),(5,_),(6,_),(7,_),(8,_),(9,_),(10,_),(11,_)] ⟨rfl,rfl,rfl,rfl,rfl,rfl,rfl,rfl,rfl,rfl,rfl,trivial⟩ ?_
     refine AL_nil (AW_seq (AW_region rfl ?_))
     refine qa (v := vi 0) ?_
     refine AL_nil ?_
     refine AW_join (α := Int) (fun (want : Int) => [(12, .lit (.int .i64 want)), (0, .sl .any 13 (l.map eRule)), (4, .lit (.bool false)), (5, .sl .any 1 (((layU l).1).map (fun l => [.sl .any 1 (l.map eI64)]))), (7, .sl .any 1 (((refN l).1).map eI64)), (9, .lit (.int .i64 ((numberU l t).1))), (11, .sl .any 3 ((predF l []).map eTerm))]) (fun (want : Int) => h) (fun (want : Int) => want = (numberU l t).1) ?_ ?_
     ·refine AW_seq (AW_region rfl ?_)
      refine qm ?_
      refine qp (v := .agg (eTerm t)) (PO_load rfl ty25 rfl rfl) ?_
      refine qp (v := vi (atF t (predF l []) 0)) (PO_call rfl rfl rfl (at_ _ _ _ (by first | assumption | omega))) ?_
      refine qa ?_
      refine AL_keep [(0,_),(1,_),(3,_),(4,_),(5,_),(6,_),(7,_),(8,_),(9,_),(10,_),(11,_),(12,_),(13,_)] ⟨rfl,rfl,rfl,rfl,rfl,rfl,rfl,rfl,rfl,rfl,rfl,rfl,rfl,trivial⟩ ?_
      refine AL_nil (AW_seq (AW_region rfl ?_))
      refine qm ?_
      refine qp (v := vb (decide (((atF t (predF l []) 0) : Int) ≥ 0))) pI ?_
      refine AL_keep [(0,_),(1,_),(3,_),(4,_),(5,_),(6,_),(7,_),(8,_),(9,_),(10,_),(11,_),(12,_),(13,_),(68,_)] ⟨rfl,rfl,rfl,rfl,rfl,rfl,rfl,rfl,rfl,rfl,rfl,rfl,rfl,rfl,trivial⟩ ?_
      refine AL_nil ?_
      refine AW_cond _ rfl (fun hc13 => ?_) (fun hc13 => ?_)
      ·replace hc13 := of_decide_eq_true hc13
       have hat := (atF_ge t (predF l []) 0).resolve_left (by omega)
       refine AW_region rfl ?_
       refine qm ?_
       refine qm ?_
       refine qp (v := .ip (eI64 ((refN l).1.getD (atF t (predF l []) 0).toNat 0))) (PO_indexAddr rfl un32 ty3 rfl rfl (by first | decide | omega) (iget (by omega))) ?_
       refine qp (v := vi ((refN l).1.getD (atF t (predF l []) 0).toNat 0)) (PO_load rfl ty3 rfl rfl) ?_
       refine qa ?_
       refine AL_keep [(0,_),(1,_),(3,_),(4,_),(5,_),(6,_),(7,_),(8,_),(9,_),(10,_),(11,_),(12,_),(13,_)] ⟨rfl,rfl,rfl,rfl,rfl,rfl,rfl,rfl,rfl,rfl,rfl,rfl,rfl,trivial⟩ ?_
       refine AL_nil ?_
       exact ⟨_, by rw [number_at hz, if_pos hc13, hN], ⟨rfl, ⟨rfl, rfl, rfl, rfl, rfl, rfl, rfl, trivial⟩, rfl, rfl, rfl⟩⟩
      ·replace hc13 := of_decide_eq_false hc13
       refine AW_skip ?_
       exact ⟨_, by rw [number_at hz, if_neg hc13], ⟨rfl, ⟨rfl, rfl, rfl, rfl, rfl, rfl, rfl, trivial⟩, rfl, rfl, rfl⟩⟩
     ·rintro want hwant
      refine AW_seq (AW_seq (AW_region rfl ?_))
      refine qm ?_
      refine qm ?_
      refine qp (v := vb (decide (((numberU l t).1 : Int) ≠ want))) pI ?_
      refine AL_keep [(12,_),(0,_),(4,_),(5,_),(7,_),(9,_),(11,_),(75,_)] ⟨rfl,rfl,rfl,rfl,rfl,rfl,rfl,rfl,trivial⟩ ?_
      refine AL_nil ?_
      refine AW_cond _ rfl (fun hc15 => ?_) (fun hc15 => ?_)
      ·replace hc15 := of_decide_eq_true hc15
       exact absurd hwant.symm hc15
      ·replace hc15 := of_decide_eq_false hc15
       refine AW_skip (AW_seq (AW_region rfl ?_))
       refine qa (v := vi 0) ?_
       refine AL_nil (AW_seq (AW_region rfl ?_))
       refine qm ?_
       refine qp (v := vi (l.length : Int)) (PO_lenM rfl un22 rfl) ?_
       refine AL_mkn rfl rfl rfl rfl un32 ty3 z3 by3 rfl rfl (by omega) (by omega) fun b hb => ?_
       refine qa ?_
       refine AL_keep [(12,_),(0,_),(4,_),(5,_),(7,_),(9,_),(11,_),(14,_),(15,_)] ⟨rfl,rfl,rfl,rfl,rfl,rfl,rfl,rfl,rfl,trivial⟩ ?_
       refine AL_nil (AW_seq (AW_seq (AW_region rfl ?_)))
       refine qa (v := vi 0) ?_
       refine AL_nil (AW_block ?_)
       refine AW_iter (fun (z_ : Nat × Int) => match z_ with | (i, most) => [(16, .lit (.int .i64 ((i : Nat) : Int))), (14, .lit (.int .i64 most)), (0, .sl .any 13 (l.map eRule)), (4, .lit (.bool false)), (5, .sl .any 1 (((layU l).1).map (fun l => [.sl .any 1 (l.map eI64)]))), (7, .sl .any 1 (((refN l).1).map eI64)), (11, .sl .any 3 ((predF l []).map eTerm)), (15, .ms b 0 1 l.length l.length)]) (fun (z_ : Nat × Int) => match z_ with | (i, most) => (h.upd b (some (.row (ints ((l.take i).map (stU l) ++ List.replicate (l.length - i) 0)))))) (fun (z_ : Nat × Int) => match z_ with | (i, most) => i ≤ l.length ∧ mxF (stU l) l 0 = mxF (stU l) (l.drop i) most) (fun (z_ : Nat × Int) => match z_ with | (i, most) => l.length - i) ((0, 0)) ⟨rfl, rfl, rfl, rfl, rfl, rfl, rfl, rfl, trivial⟩ (by simp) (⟨by omega, rfl⟩) ?_
       rintro ⟨i, most⟩ ⟨hIi, hS⟩
       have hrl := row_len (f := stU l) hIi
       refine AW_seq (AW_seq (AW_region rfl ?_))
       refine qm ?_
       refine qm ?_
       refine qp (v := vi (l.length : Int)) (PO_lenM rfl un22 rfl) ?_
       refine qp (v := vb (decide ((((i : Nat) : Int) : Int) < (l.length : Int)))) pI ?_
       refine AL_keep [(16,_),(14,_),(0,_),(4,_),(5,_),(7,_),(11,_),(15,_),(82,_)] ⟨rfl,rfl,rfl,rfl,rfl,rfl,rfl,rfl,rfl,trivial⟩ ?_
       refine AL_nil ?_
       refine AW_cond _ rfl (fun hc20 => ?_) (fun hc20 => ?_)
       ·replace hc20 := of_decide_eq_true hc20
        obtain ⟨r, hrr, hdr, hmr⟩ := drop_at (l := l) (i := i) (by omega)
        rw [hdr, mxF] at hS
        refine AW_skip (AW_seq (AW_block (AW_seq (AW_region rfl ?_))))
        refine qm ?_
        refine qm ?_
        refine qp (v := .ptr b i) (PO_ixj rfl un32 ty3 rfl rfl (by first | omega | (simp only [List.length_set]; omega))) ?_
        refine AL_stn (ns := ((l.take i).map (stU l) ++ List.replicate (l.length - i) 0)) (j := i) (v := 1) rfl rfl rfl ty3 rfl rfl (by first | omega | (simp only [List.length_set]; omega)) ?_
        refine AL_keep [(16,_),(14,_),(0,_),(4,_),(5,_),(7,_),(11,_),(15,_)] ⟨rfl,rfl,rfl,rfl,rfl,rfl,rfl,rfl,trivial⟩ ?_
        refine AL_nil ?_
        refine AW_join (α := Int) (fun (v : Int) => [(16, .lit (.int .i64 ((i : Nat) : Int))), (14, .lit (.int .i64 most)), (0, .sl .any 13 (l.map eRule)), (4, .lit (.bool false)), (5, .sl .any 1 (((layU l).1).map (fun l => [.sl .any 1 (l.map eI64)]))), (7, .sl .any 1 (((refN l).1).map eI64)), (11, .sl .any 3 ((predF l []).map eTerm)), (15, .ms b 0 1 l.length l.length)]) (fun (v : Int) => (h.upd b (some (.row (ints (List.set ((l.take i).map (stU l) ++ List.replicate (l.length - i) 0) i v)))))) (fun (v : Int) => v = stU l r) ?_ ?_
        ·refine AW_seq (AW_region rfl ?_)
         refine qm ?_
         refine qm ?_
         refine qp (v := .ip (eRule r)) (PO_indexAddr rfl un22 ty46 rfl rfl (by first | decide | omega) (mget hrr)) ?_
         refine qp (v := .ip (List.drop 0 (eRule r))) (PO_fieldAddr rfl f46_0 rfl) ?_
         refine qp (v := .ip (List.drop (1 * 4) (List.drop 0 (eRule r)))) (PO_indexAddr_arr (i := 1) rfl un43 ty41 rfl rfl (by decide) (by decide)) ?_
         refine qp (v := .ip (List.drop 0 (List.drop (1 * 4) (List.drop 0 (eRule r))))) (PO_fieldAddr rfl f41_0 rfl) ?_
         refine qp (v := vs r.head.b.var) (PO_load rfl ty9 rfl rfl) ?_
         refine qp (v := vb (decide (r.head.b.var = ⟨#[]⟩))) (PO_str rfl rfl rfl rfl) ?_
         refine AL_keep [(16,_),(14,_),(0,_),(4,_),(5,_),(7,_),(11,_),(15,_),(95,_)] ⟨rfl,rfl,rfl,rfl,rfl,rfl,rfl,rfl,rfl,trivial⟩ ?_
         refine AL_nil ?_
         refine AW_cond _ rfl (fun hc23 => ?_) (fun hc23 => ?_)
         ·replace hc23 := of_decide_eq_true hc23
          have hsa := st_at hmr hc23
          rw [hN] at hsa
          have hvs := hsa.2.2.symm
          refine AW_region rfl ?_
          refine qm ?_
          refine qm ?_
          refine qm ?_
          refine qm ?_
          refine qm ?_
          refine qm ?_
          refine qp (v := .ip (eRule r)) (PO_indexAddr rfl un22 ty46 rfl rfl (by first | decide | omega) (mget hrr)) ?_
          refine qp (v := .ip (List.drop 0 (eRule r))) (PO_fieldAddr rfl f46_0 rfl) ?_
          refine qp (v := .ip (List.drop (1 * 4) (List.drop 0 (eRule r)))) (PO_indexAddr_arr (i := 1) rfl un43 ty41 rfl rfl (by decide) (by decide)) ?_
          refine qp (v := .ip (List.drop 1 (List.drop (1 * 4) (List.drop 0 (eRule r))))) (PO_fieldAddr rfl f41_1 rfl) ?_
          refine qp (v := .agg (eTerm r.head.b.term)) (PO_load rfl ty25 rfl rfl) ?_
          refine qp (v := vi (atF r.head.b.term (predF l []) 0)) (PO_call rfl rfl rfl (at_ _ _ _ (by first | assumption | omega))) ?_
          refine qp (v := .ip (eI64 ((refN l).1.getD (atF r.head.b.term (predF l []) 0).toNat 0))) (PO_indexAddr rfl un32 ty3 rfl rfl (by first | decide | omega) (iget (by omega))) ?_
          refine qp (v := vi ((refN l).1.getD (atF r.head.b.term (predF l []) 0).toNat 0)) (PO_load rfl ty3 rfl rfl) ?_
          refine qp (v := .ptr b i) (PO_ixj rfl un32 ty3 rfl rfl (by first | omega | (simp only [List.length_set]; omega))) ?_
          refine AL_stn (ns := (List.set ((l.take i).map (stU l) ++ List.replicate (l.length - i) 0) i 1)) (j := i) (v := ((refN l).1.getD (atF r.head.b.term (predF l []) 0).toNat 0)) rfl rfl rfl ty3 rfl rfl (by first | omega | (simp only [List.length_set]; omega)) ?_
          refine AL_keep [(16,_),(14,_),(0,_),(4,_),(5,_),(7,_),(11,_),(15,_)] ⟨rfl,rfl,rfl,rfl,rfl,rfl,rfl,rfl,trivial⟩ ?_
          refine AL_nil ?_
          exact ⟨_, hvs, ⟨rfl, ⟨rfl, rfl, rfl, rfl, rfl, rfl, rfl, rfl, trivial⟩, (by first | rfl | (rw [List.set_set])), rfl, rfl⟩⟩
         ·replace hc23 := of_decide_eq_false hc23
          refine AW_skip ?_
          exact ⟨1, by rw [stU, if_neg hc23], ⟨rfl, ⟨rfl, rfl, rfl, rfl, rfl, rfl, rfl, rfl, trivial⟩, (by first | rfl | (rw [List.set_set])), rfl, rfl⟩⟩
        ·rintro v hv
         refine AW_join (α := Int) (fun (m2 : Int) => [(14, .lit (.int .i64 m2)), (16, .lit (.int .i64 ((i : Nat) : Int))), (0, .sl .any 13 (l.map eRule)), (4, .lit (.bool false)), (5, .sl .any 1 (((layU l).1).map (fun l => [.sl .any 1 (l.map eI64)]))), (7, .sl .any 1 (((refN l).1).map eI64)), (11, .sl .any 3 ((predF l []).map eTerm)), (15, .ms b 0 1 l.length l.length)]) (fun (m2 : Int) => (h.upd b (some (.row (ints (List.set ((l.take i).map (stU l) ++ List.replicate (l.length - i) 0) i v)))))) (fun (m2 : Int) => m2 = (if stU l r > most then stU l r else most)) ?_ ?_
         ·refine AW_seq (AW_region rfl ?_)
          refine qm ?_
          refine qm ?_
          refine qp (v := .ptr b i) (PO_ixj rfl un32 ty3 rfl rfl (by first | omega | (simp only [List.length_set]; omega))) ?_
          refine qp (v := vi (stU l r)) (PO_eqI (PO_ldn rfl ty3 rfl (Heap.upd_same _ _ _) (by first | omega | (simp only [List.length_set]; omega))) (by rw [getD_set (by omega), if_pos rfl, hv])) ?_
          refine qm ?_
          refine qp (v := vb (decide (((stU l r) : Int) > most))) pI ?_
          refine AL_keep [(16,_),(14,_),(0,_),(4,_),(5,_),(7,_),(11,_),(15,_),(116,_)] ⟨rfl,rfl,rfl,rfl,rfl,rfl,rfl,rfl,rfl,trivial⟩ ?_
          refine AL_nil ?_
          refine AW_cond _ rfl (fun hc25 => ?_) (fun hc25 => ?_)
          ·replace hc25 := of_decide_eq_true hc25
           refine AW_region rfl ?_
           refine qm ?_
           refine qm ?_
           refine qp (v := .ptr b i) (PO_ixj rfl un32 ty3 rfl rfl (by first | omega | (simp only [List.length_set]; omega))) ?_
           refine qp (v := vi (stU l r)) (PO_eqI (PO_ldn rfl ty3 rfl (Heap.upd_same _ _ _) (by first | omega | (simp only [List.length_set]; omega))) (by rw [getD_set (by omega), if_pos rfl, hv])) ?_
           refine qa ?_
           refine AL_keep [(16,_),(14,_),(0,_),(4,_),(5,_),(7,_),(11,_),(15,_)] ⟨rfl,rfl,rfl,rfl,rfl,rfl,rfl,rfl,trivial⟩ ?_
           refine AL_nil ?_
           exact ⟨_, by rw [if_pos hc25], ⟨rfl, ⟨rfl, rfl, rfl, rfl, rfl, rfl, rfl, rfl, trivial⟩, rfl, rfl, rfl⟩⟩
          ·replace hc25 := of_decide_eq_false hc25
           refine AW_skip ?_
           exact ⟨_, by rw [if_neg hc25], ⟨rfl, ⟨rfl, rfl, rfl, rfl, rfl, rfl, rfl, rfl, trivial⟩, rfl, rfl, rfl⟩⟩
         ·rintro m2 hm2
          refine AW_seq (AW_region rfl ?_)
          refine qm ?_
          refine qm ?_
          refine qp (v := .ip (eRule r)) (PO_indexAddr rfl un22 ty46 rfl rfl (by first | decide | omega) (mget hrr)) ?_
          refine qp (v := .ip (List.drop 0 (eRule r))) (PO_fieldAddr rfl f46_0 rfl) ?_
          refine qp (v := .ip (List.drop (1 * 4) (List.drop 0 (eRule r)))) (PO_indexAddr_arr (i := 1) rfl un43 ty41 rfl rfl (by decide) (by decide)) ?_
          refine qp (v := .ip (List.drop 1 (List.drop (1 * 4) (List.drop 0 (eRule r))))) (PO_fieldAddr rfl f41_1 rfl) ?_
          refine qp (v := .agg (eTerm r.head.b.term)) (PO_load rfl ty25 rfl rfl) ?_
          refine qm ?_
          refine qp (v := .tup [.lit (.int .i64 ((numberU l r.head.b.term).1)), .lit (.int .i64 ((numberU l r.head.b.term).2))]) (PO_call rfl rfl rfl (number_ _ _ (by assumption) (by assumption))) ?_
          refine qm ?_
          refine qp (v := vi ((numberU l r.head.b.term).1)) (PO_extract rfl rfl rfl) ?_
          refine qp (v := vi ((numberU l r.head.b.term).2)) (PO_extract rfl rfl rfl) ?_
          refine qa ?_
          refine qa ?_
          refine AL_keep [(14,_),(16,_),(0,_),(4,_),(5,_),(7,_),(11,_),(15,_),(17,_),(18,_)] ⟨rfl,rfl,rfl,rfl,rfl,rfl,rfl,rfl,rfl,rfl,trivial⟩ ?_
          refine AL_nil (AW_seq (AW_region rfl ?_))
          refine qm ?_
          refine qm ?_
          refine qp (v := .ip (eRule r)) (PO_indexAddr rfl un22 ty46 rfl rfl (by first | decide | omega) (mget hrr)) ?_
          refine qp (v := .ip (List.drop 0 (eRule r))) (PO_fieldAddr rfl f46_0 rfl) ?_
          refine qp (v := .ip (List.drop (1 * 4) (List.drop 0 (eRule r)))) (PO_indexAddr_arr (i := 1) rfl un43 ty41 rfl rfl (by decide) (by decide)) ?_
          refine qp (v := .ip (List.drop 0 (List.drop (1 * 4) (List.drop 0 (eRule r))))) (PO_fieldAddr rfl f41_0 rfl) ?_
          refine qp (v := vs r.head.b.var) (PO_load rfl ty9 rfl rfl) ?_
          refine qp (v := vb (decide (r.head.b.var = ⟨#[]⟩))) (PO_str rfl rfl rfl rfl) ?_
          refine qm ?_
          refine AL_jk 11 152 (vb ((decide (r.head.b.var = ⟨#[]⟩)) && ((decide (((numberU l r.head.b.term).2 : Int) ≠ 0)) || (decide (((numberU l r.head.b.term).1 : Int) ≠ (stU l r)))))) [(14,_),(16,_),(0,_),(4,_),(5,_),(7,_),(11,_),(15,_),(17,_),(18,_),(133,_),(134,_),(135,_),(136,_),(137,_),(138,_),(139,_),(140,_),(141,_)] ⟨rfl,rfl,rfl,rfl,rfl,rfl,rfl,rfl,rfl,rfl,rfl,rfl,rfl,rfl,rfl,rfl,rfl,rfl,rfl,trivial⟩ ?_ ?_
          ·refine AL_split 141 _ rfl (fun hg141 => ?_) (fun hg141 => ?_)
           ·refine gm ?_
            refine qg (v := vb (decide (((numberU l r.head.b.term).2 : Int) ≠ 0))) pI ?_
            refine gm ?_
            refine AL_jk 7 151 (vb ((decide (((numberU l r.head.b.term).2 : Int) ≠ 0)) || (decide (((numberU l r.head.b.term).1 : Int) ≠ (stU l r))))) [(14,_),(16,_),(0,_),(4,_),(5,_),(7,_),(11,_),(15,_),(17,_),(18,_),(133,_),(134,_),(135,_),(136,_),(137,_),(138,_),(139,_),(140,_),(141,_),(142,_),(143,_),(144,_)] ⟨rfl,rfl,rfl,rfl,rfl,rfl,rfl,rfl,rfl,rfl,rfl,rfl,rfl,rfl,rfl,rfl,rfl,rfl,rfl,rfl,rfl,rfl,trivial⟩ ?_ ?_
            ·refine AL_split 144 _ rfl (fun hg144 => ?_) (fun hg144 => ?_)
             ·refine qz ?_
              refine qz ?_
              refine qz ?_
              refine qz ?_
              refine qz ?_
              refine qz ?_
              refine gk ?_
              refine AL_say (k := 151) (vb ((decide (((numberU l r.head.b.term).2 : Int) ≠ 0)) || (decide (((numberU l r.head.b.term).1 : Int) ≠ (stU l r))))) rfl (by rw [hg144]; rfl) ?_
              refine AL_say (k := 144) (vb (decide (((numberU l r.head.b.term).2 : Int) ≠ 0))) rfl (by rw [hg144]) ?_
              exact nl ⟨rfl,rfl,rfl,rfl,rfl,rfl,rfl,rfl,rfl,rfl,rfl,rfl,rfl,rfl,rfl,rfl,rfl,rfl,rfl,rfl,rfl,rfl,rfl,trivial⟩
             ·refine gm ?_
              refine gm ?_
              refine gm ?_
              refine qg (v := .ptr b i) (PO_ixj rfl un32 ty3 rfl rfl (by first | omega | (simp only [List.length_set]; omega))) ?_
              refine qg (v := vi (stU l r)) (PO_eqI (PO_ldn rfl ty3 rfl (Heap.upd_same _ _ _) (by first | omega | (simp only [List.length_set]; omega))) (by rw [getD_set (by omega), if_pos rfl, hv])) ?_
              refine qg (v := vb (decide (((numberU l r.head.b.term).1 : Int) ≠ (stU l r)))) pI ?_
              refine gk ?_
              refine AL_say (k := 151) (vb ((decide (((numberU l r.head.b.term).2 : Int) ≠ 0)) || (decide (((numberU l r.head.b.term).1 : Int) ≠ (stU l r))))) rfl (by rw [hg144]; rfl) ?_
              refine AL_say (k := 144) (vb (decide (((numberU l r.head.b.term).2 : Int) ≠ 0))) rfl (by rw [hg144]) ?_
              exact nl ⟨rfl,rfl,rfl,rfl,rfl,rfl,rfl,rfl,rfl,rfl,rfl,rfl,rfl,rfl,rfl,rfl,rfl,rfl,rfl,rfl,rfl,rfl,rfl,trivial⟩
            ·refine qk ?_
             refine AL_say (k := 152) (vb ((decide (r.head.b.var = ⟨#[]⟩)) && ((decide (((numberU l r.head.b.term).2 : Int) ≠ 0)) || (decide (((numberU l r.head.b.term).1 : Int) ≠ (stU l r)))))) rfl (by rw [hg141]; rfl) ?_
             refine AL_say (k := 141) (vb (decide (r.head.b.var = ⟨#[]⟩))) rfl (by rw [hg141]) ?_
             exact nl ⟨rfl,rfl,rfl,rfl,rfl,rfl,rfl,rfl,rfl,rfl,rfl,rfl,rfl,rfl,rfl,rfl,rfl,rfl,rfl,rfl,trivial⟩
           ·refine qz ?_
            refine qz ?_
            refine qz ?_
            refine qy ?_
            refine qy ?_
            refine qy ?_
            refine qy ?_
            refine qy ?_
            refine qy ?_
            refine qz ?_
            refine qk ?_
            refine AL_say (k := 152) (vb ((decide (r.head.b.var = ⟨#[]⟩)) && ((decide (((numberU l r.head.b.term).2 : Int) ≠ 0)) || (decide (((numberU l r.head.b.term).1 : Int) ≠ (stU l r)))))) rfl (by rw [hg141]; rfl) ?_
            refine AL_say (k := 141) (vb (decide (r.head.b.var = ⟨#[]⟩))) rfl (by rw [hg141]) ?_
            exact nl ⟨rfl,rfl,rfl,rfl,rfl,rfl,rfl,rfl,rfl,rfl,rfl,rfl,rfl,rfl,rfl,rfl,rfl,rfl,rfl,rfl,trivial⟩
          ·refine AL_keep [(152,_),(14,_),(16,_),(0,_),(4,_),(5,_),(7,_),(11,_),(15,_),(17,_),(18,_)] ⟨rfl,rfl,rfl,rfl,rfl,rfl,rfl,rfl,rfl,rfl,rfl,trivial⟩ ?_
           refine AL_nil ?_
           refine AW_cond _ rfl (fun hc28 => ?_) (fun hc28 => ?_)
           ·rw [number_err, hz] at hc28
            simp only [Bool.and_eq_true, decide_eq_true_eq] at hc28
            rw [number_st hz hmr hc28.1] at hc28
            simp at hc28
           ·refine AW_skip (AW_region rfl ?_)
            refine qm ?_
            refine qp (v := vn (i + 1)) (PO_inc rfl rfl rfl (by first | omega | simp_all; omega)) ?_
            refine qa ?_
            refine AL_keep [(14,_),(16,_),(0,_),(4,_),(5,_),(7,_),(11,_),(15,_),(17,_),(18,_)] ⟨rfl,rfl,rfl,rfl,rfl,rfl,rfl,rfl,rfl,rfl,trivial⟩ ?_
            refine AL_nil ?_
            exact ⟨(i + 1, m2), ⟨by omega, by rw [hm2]; exact hS⟩, by simp only []; omega, ⟨rfl, ⟨rfl, rfl, rfl, rfl, rfl, rfl, rfl, rfl, trivial⟩, (by simp only []; rw [hv, row_set hrr]), rfl, rfl⟩⟩
       ·replace hc20 := of_decide_eq_false hc20
        rw [drop_end (l := l) (i := i) (by omega), mxF] at hS
        have hrowd : ((l.take i).map (stU l) ++ List.replicate (l.length - i) 0) = l.map (stU l) := by rw [show i = l.length by omega, List.take_of_length_le (Nat.le_refl _)]; simp
        have hll := lay_len hz
        have hlz := lay_le hz
        refine AW_exit ?_
        refine AW_seq (AW_seq (AW_region rfl ?_))
        refine qm ?_
        refine qp (v := vi (((layU l).1).length : Int)) (PO_lenM rfl un28 rfl) ?_
        refine qm ?_
        refine qp (v := vb (decide (((((layU l).1).length : Int) : Int) ≠ most))) pI ?_
        refine AL_keep [(16,_),(14,_),(0,_),(4,_),(5,_),(7,_),(11,_),(15,_),(156,_)] ⟨rfl,rfl,rfl,rfl,rfl,rfl,rfl,rfl,rfl,trivial⟩ ?_
        refine AL_nil ?_
        refine AW_cond _ rfl (fun hc30 => ?_) (fun hc30 => ?_)
        ·replace hc30 := of_decide_eq_true hc30
         exact absurd (hll.trans hS) hc30
        ·replace hc30 := of_decide_eq_false hc30
         refine AW_skip (AW_seq (AW_seq (AW_region rfl ?_)))
         refine qa (v := vi 0) ?_
         refine AL_nil (AW_block ?_)
         refine AW_iter (fun (s : Nat) => [(19, .lit (.int .i64 ((s : Nat) : Int))), (14, .lit (.int .i64 most)), (0, .sl .any 13 (l.map eRule)), (4, .lit (.bool false)), (5, .sl .any 1 (((layU l).1).map (fun l => [.sl .any 1 (l.map eI64)]))), (15, .ms b 0 1 l.length l.length)]) (fun (s : Nat) => (h.upd b (some (.row (ints (l.map (stU l))))))) (fun (s : Nat) => s ≤ (layU l).1.length) (fun (s : Nat) => (layU l).1.length - s) (0) ⟨rfl, rfl, rfl, rfl, rfl, rfl, trivial⟩ (by simp only [hrowd]) (by omega) ?_
         intro s hIs
         refine AW_seq (AW_seq (AW_region rfl ?_))
         refine qm ?_
         refine qm ?_
         refine qp (v := vb (decide ((((s : Nat) : Int) : Int) < most))) pI ?_
         refine AL_keep [(19,_),(14,_),(0,_),(4,_),(5,_),(15,_),(159,_)] ⟨rfl,rfl,rfl,rfl,rfl,rfl,rfl,trivial⟩ ?_
         refine AL_nil ?_
         refine AW_cond _ rfl (fun hc33 => ?_) (fun hc33 => ?_)
         ·replace hc33 := of_decide_eq_true hc33
          have hsl : s < (layU l).1.length := by omega
          have hLs := lay_get hz hsl
          have hLl := ixF_le (stU l) ((s + 1 : Nat) : Int) l 0
          refine AW_skip (AW_seq (AW_block (AW_seq (AW_region rfl ?_))))
          refine qa (v := vi 0) ?_
          refine AL_nil (AW_seq (AW_seq (AW_region rfl ?_)))
          refine qa (v := vi 0) ?_
          refine AL_nil (AW_block ?_)
          refine AW_iter (fun (z_ : Nat × Nat) => match z_ with | (i, q) => [(21, .lit (.int .i64 ((i : Nat) : Int))), (20, .lit (.int .i64 ((q : Nat) : Int))), (19, .lit (.int .i64 ((s : Nat) : Int))), (14, .lit (.int .i64 most)), (0, .sl .any 13 (l.map eRule)), (4, .lit (.bool false)), (5, .sl .any 1 (((layU l).1).map (fun l => [.sl .any 1 (l.map eI64)]))), (15, .ms b 0 1 l.length l.length)]) (fun (z_ : Nat × Nat) => match z_ with | (i, q) => (h.upd b (some (.row (ints (l.map (stU l))))))) (fun (z_ : Nat × Nat) => match z_ with | (i, q) => i ≤ l.length ∧ q ≤ (ixF (stU l) ((s + 1 : Nat) : Int) 0 l).length ∧ (ixF (stU l) ((s + 1 : Nat) : Int) 0 l).drop q = ixF (stU l) ((s + 1 : Nat) : Int) ((i : Nat) : Int) (l.drop i)) (fun (z_ : Nat × Nat) => match z_ with | (i, q) => l.length - i) ((0, 0)) ⟨rfl, rfl, rfl, rfl, rfl, rfl, rfl, rfl, trivial⟩ rfl (⟨by omega, by omega, rfl⟩) ?_
          rintro ⟨i, q⟩ ⟨hIi, hIq, hX⟩
          refine AW_seq (AW_seq (AW_region rfl ?_))
          refine qm ?_
          refine qm ?_
          refine qp (v := vi (l.length : Int)) (PO_lenM rfl un22 rfl) ?_
          refine qp (v := vb (decide ((((i : Nat) : Int) : Int) < (l.length : Int)))) pI ?_
          refine AL_keep [(21,_),(20,_),(19,_),(14,_),(0,_),(4,_),(5,_),(15,_),(165,_)] ⟨rfl,rfl,rfl,rfl,rfl,rfl,rfl,rfl,rfl,trivial⟩ ?_
          refine AL_nil ?_
          refine AW_cond _ rfl (fun hc37 => ?_) (fun hc37 => ?_)
          ·replace hc37 := of_decide_eq_true hc37
           obtain ⟨r, hrr, hdr, hmr⟩ := drop_at (l := l) (i := i) (by omega)
           rw [hdr, ixF] at hX
           refine AW_skip (AW_seq (AW_block (AW_seq (AW_seq (AW_region rfl ?_)))))
           refine qm ?_
           refine qm ?_
           refine qp (v := .ptr b i) (PO_ixj rfl un32 ty3 rfl rfl (by first | omega | (simp only [List.length_set]; omega))) ?_
           refine qp (v := vi (stU l r)) (PO_eqI (PO_ldn rfl ty3 rfl (Heap.upd_same _ _ _) (by simp; omega)) (row_get hrr)) ?_
           refine qm ?_
           refine qp (v := vn (s + 1)) (PO_inc rfl rfl rfl (by first | omega | simp_all; omega)) ?_
           refine qp (v := vb (decide (((stU l r) : Int) ≠ ((s + 1 : Nat) : Int)))) pI ?_
           refine AL_keep [(21,_),(20,_),(19,_),(14,_),(0,_),(4,_),(5,_),(15,_),(174,_)] ⟨rfl,rfl,rfl,rfl,rfl,rfl,rfl,rfl,rfl,trivial⟩ ?_
           refine AL_nil ?_
           refine AW_cond _ rfl (fun hc39 => ?_) (fun hc39 => ?_)
           ·replace hc39 := of_decide_eq_true hc39
            rw [if_neg hc39] at hX
            refine AW_exit ?_
            refine AW_region rfl ?_
            refine qm ?_
            refine qp (v := vn (i + 1)) (PO_inc rfl rfl rfl (by first | omega | simp_all; omega)) ?_
            refine qa ?_
            refine AL_keep [(21,_),(20,_),(19,_),(14,_),(0,_),(4,_),(5,_),(15,_)] ⟨rfl,rfl,rfl,rfl,rfl,rfl,rfl,rfl,trivial⟩ ?_
            refine AL_nil ?_
            exact ⟨(i + 1, q), ⟨by omega, hIq, hX⟩, by simp only []; omega, ⟨rfl, ⟨rfl, rfl, rfl, rfl, rfl, rfl, rfl, rfl, trivial⟩, rfl, rfl, rfl⟩⟩
           ·replace hc39 := of_decide_eq_false hc39
            rw [if_pos (by omega)] at hX
            have hLq := drop_cons_get hX
            refine AW_skip (AW_seq (AW_seq (AW_region rfl ?_)))
            refine qm ?_
            refine qm ?_
            refine qm ?_
            refine qp (v := .ip ((fun l => [.sl .any 1 (l.map eI64)]) (ixF (stU l) ((s + 1 : Nat) : Int) 0 l))) (PO_indexAddr rfl un28 ty32 rfl rfl (by first | decide | omega) (mget hLs)) ?_
            refine qp (v := .sl .any 1 ((ixF (stU l) ((s + 1 : Nat) : Int) 0 l).map eI64)) (PO_load rfl ty32 rfl rfl) ?_
            refine qp (v := vi ((ixF (stU l) ((s + 1 : Nat) : Int) 0 l).length : Int)) (PO_lenM rfl un32 rfl) ?_
            refine qp (v := vb (decide ((((q : Nat) : Int) : Int) ≥ ((ixF (stU l) ((s + 1 : Nat) : Int) 0 l).length : Int)))) pI ?_
            refine qm ?_
            refine AL_jk 10 192 (vb ((decide ((((q : Nat) : Int) : Int) ≥ ((ixF (stU l) ((s + 1 : Nat) : Int) 0 l).length : Int))) || (decide ((((i : Nat) : Int) : Int) ≠ ((i : Nat) : Int))))) [(21,_),(20,_),(19,_),(14,_),(0,_),(4,_),(5,_),(15,_),(175,_),(176,_),(177,_),(178,_),(179,_),(180,_),(181,_),(182,_)] ⟨rfl,rfl,rfl,rfl,rfl,rfl,rfl,rfl,rfl,rfl,rfl,rfl,rfl,rfl,rfl,rfl,trivial⟩ ?_ ?_
            ·refine AL_split 182 _ rfl (fun hg182 => ?_) (fun hg182 => ?_)
             ·refine qz ?_
              refine qz ?_
              refine qz ?_
              refine qz ?_
              refine qz ?_
              refine qz ?_
              refine qz ?_
              refine qz ?_
              refine qz ?_
              refine qk ?_
              refine AL_say (k := 192) (vb ((decide ((((q : Nat) : Int) : Int) ≥ ((ixF (stU l) ((s + 1 : Nat) : Int) 0 l).length : Int))) || (decide ((((i : Nat) : Int) : Int) ≠ ((i : Nat) : Int))))) rfl (by rw [hg182]; rfl) ?_
              refine AL_say (k := 182) (vb (decide ((((q : Nat) : Int) : Int) ≥ ((ixF (stU l) ((s + 1 : Nat) : Int) 0 l).length : Int)))) rfl (by rw [hg182]) ?_
              exact nl ⟨rfl,rfl,rfl,rfl,rfl,rfl,rfl,rfl,rfl,rfl,rfl,rfl,rfl,rfl,rfl,rfl,rfl,trivial⟩
             ·refine gm ?_
              refine gm ?_
              refine qg (v := .ip ((fun l => [.sl .any 1 (l.map eI64)]) (ixF (stU l) ((s + 1 : Nat) : Int) 0 l))) (PO_indexAddr rfl un28 ty32 rfl rfl (by first | decide | omega) (mget hLs)) ?_
              refine qg (v := .sl .any 1 ((ixF (stU l) ((s + 1 : Nat) : Int) 0 l).map eI64)) (PO_load rfl ty32 rfl rfl) ?_
              refine gm ?_
              refine qg (v := .ip (eI64 ((i : Nat) : Int))) (PO_indexAddr rfl un32 ty3 rfl rfl (by first | decide | omega) (mget hLq.1)) ?_
              refine qg (v := vn i) (PO_load rfl ty3 rfl rfl) ?_
              refine gm ?_
              refine qg (v := vb (decide ((((i : Nat) : Int) : Int) ≠ ((i : Nat) : Int)))) pI ?_
              refine qk ?_
              refine AL_say (k := 192) (vb ((decide ((((q : Nat) : Int) : Int) ≥ ((ixF (stU l) ((s + 1 : Nat) : Int) 0 l).length : Int))) || (decide ((((i : Nat) : Int) : Int) ≠ ((i : Nat) : Int))))) rfl (by rw [hg182]; rfl) ?_
              refine AL_say (k := 182) (vb (decide ((((q : Nat) : Int) : Int) ≥ ((ixF (stU l) ((s + 1 : Nat) : Int) 0 l).length : Int)))) rfl (by rw [hg182]) ?_
              exact nl ⟨rfl,rfl,rfl,rfl,rfl,rfl,rfl,rfl,rfl,rfl,rfl,rfl,rfl,rfl,rfl,rfl,rfl,trivial⟩
            ·refine AL_keep [(192,_),(21,_),(20,_),(19,_),(14,_),(0,_),(4,_),(5,_),(15,_)] ⟨rfl,rfl,rfl,rfl,rfl,rfl,rfl,rfl,rfl,trivial⟩ ?_
             refine AL_nil ?_
             refine AW_cond _ rfl (fun hc40 => ?_) (fun hc40 => ?_)
             ·have hlt := hLq.2.1
              rw [Bool.or_eq_true, decide_eq_true_eq, decide_eq_true_eq] at hc40
              rcases hc40 with h40 | h40
              ·exact absurd h40 (by omega)
              ·exact absurd rfl h40
             ·refine AW_skip (AW_region rfl ?_)
              refine qm ?_
              refine qp (v := vn (q + 1)) (PO_inc rfl rfl rfl (by first | omega | simp_all; omega)) ?_
              refine qa ?_
              refine AL_keep [(21,_),(20,_),(19,_),(14,_),(0,_),(4,_),(5,_),(15,_)] ⟨rfl,rfl,rfl,rfl,rfl,rfl,rfl,rfl,trivial⟩ ?_
              refine AL_nil (AW_region rfl ?_)
              refine qm ?_
              refine qp (v := vn (i + 1)) (PO_inc rfl rfl rfl (by first | omega | simp_all; omega)) ?_
              refine qa ?_
              refine AL_keep [(21,_),(20,_),(19,_),(14,_),(0,_),(4,_),(5,_),(15,_)] ⟨rfl,rfl,rfl,rfl,rfl,rfl,rfl,rfl,trivial⟩ ?_
              refine AL_nil ?_
              exact ⟨(i + 1, q + 1), ⟨by omega, by omega, hLq.2.2⟩, by simp only []; omega, ⟨rfl, ⟨rfl, rfl, rfl, rfl, rfl, rfl, rfl, rfl, trivial⟩, rfl, rfl, rfl⟩⟩
          ·replace hc37 := of_decide_eq_false hc37
           rw [drop_end (l := l) (i := i) (by omega), ixF] at hX
           have hXl := congrArg List.length hX
           rw [List.length_drop, List.length_nil] at hXl
           refine AW_exit ?_
           refine AW_seq (AW_region rfl ?_)
           refine qm ?_
           refine qm ?_
           refine qm ?_
           refine qp (v := .ip ((fun l => [.sl .any 1 (l.map eI64)]) (ixF (stU l) ((s + 1 : Nat) : Int) 0 l))) (PO_indexAddr rfl un28 ty32 rfl rfl (by first | decide | omega) (mget hLs)) ?_
           refine qp (v := .sl .any 1 ((ixF (stU l) ((s + 1 : Nat) : Int) 0 l).map eI64)) (PO_load rfl ty32 rfl rfl) ?_
           refine qp (v := vi ((ixF (stU l) ((s + 1 : Nat) : Int) 0 l).length : Int)) (PO_lenM rfl un32 rfl) ?_
           refine qp (v := vb (decide ((((q : Nat) : Int) : Int) ≠ ((ixF (stU l) ((s + 1 : Nat) : Int) 0 l).length : Int)))) pI ?_
           refine AL_keep [(21,_),(20,_),(19,_),(14,_),(0,_),(4,_),(5,_),(15,_),(201,_)] ⟨rfl,rfl,rfl,rfl,rfl,rfl,rfl,rfl,rfl,trivial⟩ ?_
           refine AL_nil ?_
           refine AW_cond _ rfl (fun hc43 => ?_) (fun hc43 => ?_)
           ·replace hc43 := of_decide_eq_true hc43
            exact absurd (by omega) hc43
           ·replace hc43 := of_decide_eq_false hc43
            refine AW_skip (AW_region rfl ?_)
            refine qm ?_
            refine qp (v := vn (s + 1)) (PO_inc rfl rfl rfl (by first | omega | simp_all; omega)) ?_
            refine qa ?_
            refine AL_keep [(21,_),(20,_),(19,_),(14,_),(0,_),(4,_),(5,_),(15,_)] ⟨rfl,rfl,rfl,rfl,rfl,rfl,rfl,rfl,trivial⟩ ?_
            refine AL_nil ?_
            exact ⟨s + 1, by omega, by omega, ⟨rfl, ⟨rfl, rfl, rfl, rfl, rfl, rfl, trivial⟩, rfl, rfl, rfl⟩⟩
         ·replace hc33 := of_decide_eq_false hc33
          refine AW_exit ?_
          refine AW_seq (AW_region rfl ?_)
          refine qp (v := vb true) (PO_call rfl rfl rfl known_) ?_
          refine qa (v := vb true) ?_
          refine AL_keep [(19,_),(14,_),(0,_),(4,_),(5,_),(15,_)] ⟨rfl,rfl,rfl,rfl,rfl,rfl,trivial⟩ ?_
          refine AL_nil ?_
          refine AW_ret ?_
          exact ret_le2 (.inl rfl) rfl rfl (Heap.le_upd (.refl _) hb _)
end Go.AM.Tryd
end
section
set_option linter.unusedVariables false
set_option linter.unusedSimpArgs false
namespace Go.AM.Tryd
open Go Go.AM Go.AM.D
def rNil : Rule := ⟨⟨s0, s0, s0⟩, []⟩
def rAt (l : List Rule) (i : Int) : Rule := l.getD i.toNat rNil
theorem rget {l : List Rule} {i : Int} (h : i.toNat < l.length) : (l.map eRule)[i.toNat]? = some (eRule (rAt l i)) := by
  rw [List.getElem?_map, rAt, List.getD_eq_getElem?_getD, List.getElem?_eq_getElem h]; rfl
theorem rAt_mem {l : List Rule} {i : Int} (h : i.toNat < l.length) : rAt l i ∈ l := by
  rw [rAt, List.getD_eq_getElem?_getD, List.getElem?_eq_getElem h]; exact List.getElem_mem h
def rotI (n : Nat) (y : Int) (i : Nat) : Int := (((i : Nat) : Int) + y.tmod (n : Int) + (n : Int)) % (n : Int)
def rotL (l : List Rule) (y : Int) : List Rule := (List.range l.length).map fun i => rAt l (rotI l.length y i)
theorem tmod_bd (y : Int) {n : Nat} (h : 0 < n) : -(n : Int) < y.tmod n ∧ y.tmod n < n := by
  have h1 := Int.tmod_lt_of_pos y (show (0 : Int) < n by omega)
  have h2 := Int.tmod_lt_of_pos (-y) (show (0 : Int) < n by omega)
  rw [Int.neg_tmod] at h2
  omega
theorem rotI_bd {n : Nat} (y : Int) (i : Nat) (h : 0 < n) : 0 ≤ rotI n y i ∧ rotI n y i < n := by
  unfold rotI
  exact ⟨Int.emod_nonneg _ (by omega), Int.emod_lt_of_pos _ (by omega)⟩
theorem rotL_len (l : List Rule) (y : Int) : (rotL l y).length = l.length := by simp [rotL]
theorem rotL_take {l : List Rule} {y : Int} {i : Nat} (h : i < l.length) : (rotL l y).take i ++ [rAt l (rotI l.length y i)] = (rotL l y).take (i + 1) := by
  have hg : (rotL l y)[i]? = some (rAt l (rotI l.length y i)) := by
    rw [rotL, List.getElem?_map, List.getElem?_range h]; rfl
  rw [List.take_add_one, hg]; rfl
theorem rotL_mem {l : List Rule} {y : Int} {r : Rule} (h : r ∈ rotL l y) : r ∈ l := by
  simp only [rotL, List.mem_map, List.mem_range] at h
  obtain ⟨i, hi, rfl⟩ := h
  have := rotI_bd (n := l.length) y i (by omega)
  exact rAt_mem (by omega)
theorem rotL_ok {l : List Rule} {y : Int} (h : okRs l) : okRs (rotL l y) := ⟨by rw [rotL_len]; exact h.1, fun r hr => h.2 r (rotL_mem hr)⟩
theorem few_mem : ∀ {l : List Rule}, fewF l = true → ∀ r ∈ l, r.body.length ≤ 20
  | x :: l, h, r, hr => by
    rw [fewF] at h
    split at h
    · cases h
    · rcases List.mem_cons.1 hr with rfl | hr
      · omega
      · exact few_mem h r hr
theorem bods_le : ∀ {l : List Rule}, (∀ r ∈ l, r.body.length ≤ 20) → bods l ≤ 20 * l.length
  | [], _ => by simp [bods]
  | r :: l, h => by
    have := bods_le (l := l) fun x hx => h x (List.mem_cons_of_mem _ hx)
    have := h r (List.mem_cons_self ..)
    simp only [bods, List.length_cons]; omega
end Go.AM.Tryd
end
section
set_option maxRecDepth 100000
set_option linter.unusedVariables false
set_option linter.unusedSimpArgs false
namespace Go.AM.Tryd
open Go Go.AM Go.AM.D
theorem law4_ (l : List Rule) (y : Int) (hl : okRs l) (hrot : (fewF l && decide (l.length ≤ 16)) = true → progR l = 0 → ∀ t, numberU l t = numberU (rotL l y) t) : PFn PR (.fn (.func 4) [] []) [.sl .any 13 (l.map eRule), .lit (.int .i64 y)] (.lit (.bool true)) := by
 have hl1 := hl.1
 refine PFn_of Go.Proofs.Tryd.func4 rfl (by rfl) Go.Proofs.Tryd.ntmps4 rfl (by simp) fun h => ?_
 refine AW_seq (AW_region rfl ?_)
 refine qa (v := vb false) ?_
 refine AL_nil (AW_seq (AW_seq (AW_region rfl ?_)))
 refine qm ?_
 refine qp (v := vb (fewF l && decide (l.length ≤ 16))) (PO_call rfl rfl rfl (few_ _ (by first | assumption | omega))) ?_
 refine qp (v := vb (!(fewF l && decide (l.length ≤ 16)))) (PO_not (b := (fewF l && decide (l.length ≤ 16))) rfl rfl) ?_
 refine qm ?_
 refine AL_jk 4 19 (vb ((!(fewF l && decide (l.length ≤ 16))) || (decide (((l.length : Int) : Int) = 0)))) [(0,_),(1,_),(4,_),(12,_),(13,_),(14,_),(15,_)] ⟨rfl,rfl,rfl,rfl,rfl,rfl,rfl,trivial⟩ ?_ ?_
 ·refine AL_split 15 _ rfl (fun hg15 => ?_) (fun hg15 => ?_)
  ·refine qz ?_
   refine qz ?_
   refine qz ?_
   refine qk ?_
   refine AL_say (k := 19) (vb ((!(fewF l && decide (l.length ≤ 16))) || (decide (((l.length : Int) : Int) = 0)))) rfl (by rw [hg15]; rfl) ?_
   refine AL_say (k := 15) (vb (!(fewF l && decide (l.length ≤ 16)))) rfl (by rw [hg15]) ?_
   exact nl ⟨rfl,rfl,rfl,rfl,rfl,rfl,rfl,rfl,trivial⟩
  ·refine gm ?_
   refine qg (v := vi (l.length : Int)) (PO_lenM rfl un22 rfl) ?_
   refine qg (v := vb (decide (((l.length : Int) : Int) = 0))) pI ?_
   refine qk ?_
   refine AL_say (k := 19) (vb ((!(fewF l && decide (l.length ≤ 16))) || (decide (((l.length : Int) : Int) = 0)))) rfl (by rw [hg15]; rfl) ?_
   refine AL_say (k := 15) (vb (!(fewF l && decide (l.length ≤ 16)))) rfl (by rw [hg15]) ?_
   exact nl ⟨rfl,rfl,rfl,rfl,rfl,rfl,rfl,rfl,trivial⟩
 ·refine AL_keep [(19,_),(0,_),(1,_),(4,_)] ⟨rfl,rfl,rfl,rfl,trivial⟩ ?_
  refine AL_nil ?_
  refine AW_cond _ rfl (fun hc1 => ?_) (fun hc1 => ?_)
  ·refine AW_seq (AW_region rfl ?_)
   refine qp (v := vb true) (PO_call rfl rfl rfl known_) ?_
   refine qa (v := vb true) ?_
   refine AL_keep [(0,_),(1,_),(4,_)] ⟨rfl,rfl,rfl,trivial⟩ ?_
   refine AL_nil ?_
   refine AW_ret ?_
   exact ret_le2 (.inl rfl) rfl (by rfl) (.refl _)
  ·rw [Bool.or_eq_false_iff, decide_eq_false_iff_not] at hc1
   have hfew : (fewF l && decide (l.length ≤ 16)) = true := by simpa using hc1.1
   have hf2 := hfew
   rw [Bool.and_eq_true, decide_eq_true_eq] at hf2
   have h16 := hf2.2
   have hpos : 0 < l.length := by omega
   have hbods : bods l ≤ 1048576 := by have := few_bods hf2.1; omega
   have hbo : bods (rotL l y) ≤ 1048576 := by have := bods_le (l := (rotL l y)) (fun r hr => few_mem hf2.1 r (rotL_mem hr)); rw [rotL_len] at this; omega
   have hok2 := rotL_ok (y := y) hl
   have htm := tmod_bd y hpos
   refine AW_skip (AW_seq (AW_region rfl ?_))
   refine qp (v := .sl .nil 13 []) (PO_nil_assign rfl) ?_
   refine AL_nil (AW_seq (AW_seq (AW_region rfl ?_)))
   refine qa (v := vi 0) ?_
   refine AL_nil (AW_block ?_)
   refine AW_iter (fun (z_ : Nat × Own × Heap) => match z_ with | (i, own, hp) => [(6, .lit (.int .i64 ((i : Nat) : Int))), (5, .sl own 13 (((rotL l y).take i).map eRule)), (0, .sl .any 13 (l.map eRule)), (1, .lit (.int .i64 y)), (4, .lit (.bool false))]) (fun (z_ : Nat × Own × Heap) => match z_ with | (i, own, hp) => hp) (fun (z_ : Nat × Own × Heap) => match z_ with | (i, own, hp) => i ≤ l.length ∧ Grow h 13 ((rotL l y).take i).length own hp) (fun (z_ : Nat × Own × Heap) => match z_ with | (i, own, hp) => l.length - i) ((0, .nil, h)) ⟨rfl, rfl, rfl, rfl, rfl, trivial⟩ rfl (⟨by omega, Grow.nil _ _ _⟩) ?_
   rintro ⟨i, own, hp⟩ ⟨hIi, hG⟩
   refine AW_seq (AW_seq (AW_region rfl ?_))
   refine qm ?_
   refine qm ?_
   refine qp (v := vi (l.length : Int)) (PO_lenM rfl un22 rfl) ?_
   refine qp (v := vb (decide ((((i : Nat) : Int) : Int) < (l.length : Int)))) pI ?_
   refine AL_keep [(6,_),(5,_),(0,_),(1,_),(4,_),(24,_)] ⟨rfl,rfl,rfl,rfl,rfl,rfl,trivial⟩ ?_
   refine AL_nil ?_
   refine AW_cond _ rfl (fun hc5 => ?_) (fun hc5 => ?_)
   ·replace hc5 := of_decide_eq_true hc5
    have hib := rotI_bd y i hpos
    have htl : ((rotL l y).take i).length = i := by rw [List.length_take, rotL_len]; omega
    rw [rotI] at hib
    refine AW_skip (AW_seq (AW_block (AW_region rfl ?_)))
    refine qm ?_
    refine qm ?_
    refine qm ?_
    refine qm ?_
    refine qm ?_
    refine qp (v := vi (l.length : Int)) (PO_lenM rfl un22 rfl) ?_
    refine qp (v := vi (y.tmod (l.length : Int))) (PO_fit rfl rfl rfl rfl (show (l.length : Int) ≠ 0 by omega) rfl) ?_
    refine qp (v := vi (((i : Nat) : Int) + (y.tmod (l.length : Int)))) (PO_fit rfl rfl rfl rfl trivial (i64w (by omega) (by omega))) ?_
    refine qm ?_
    refine qp (v := vi (l.length : Int)) (PO_lenM rfl un22 rfl) ?_
    refine qp (v := vi (((i : Nat) : Int) + (y.tmod (l.length : Int)) + (l.length : Int))) (PO_fit rfl rfl rfl rfl trivial (i64w (by omega) (by omega))) ?_
    refine qm ?_
    refine qp (v := vi (l.length : Int)) (PO_lenM rfl un22 rfl) ?_
    refine qp (v := vi ((((i : Nat) : Int) + y.tmod (l.length : Int) + (l.length : Int)) % (l.length : Int))) (PO_fit rfl rfl rfl rfl (show (l.length : Int) ≠ 0 by omega) (tmodE (by omega))) ?_
    refine qp (v := .ip (eRule (rAt l (rotI l.length y i)))) (PO_indexAddr rfl un22 ty46 rfl rfl (by first | decide | omega) (rget (i := rotI l.length y i) (by rw [rotI]; omega))) ?_
    refine qp (v := .agg (eRule (rAt l (rotI l.length y i)))) (PO_load rfl ty46 rfl rfl) ?_
    refine qp (v := .sl .full 13 ([(rAt l (rotI l.length y i))].map eRule)) (PO_buildSlice (n := 1) (S := 13) (rs := eRule (rAt l (rotI l.length y i)) ++ []) rfl un22 ty46 z46 rfl rfl rfl (by decide) rfl (by decide)) ?_
    refine AL_m rfl rfl rfl (MO_grow (acc := ((rotL l y).take i)) (f := eRule) rfl un22 un22 ty46 z46 rfl by46 rfl rfl (.inl rfl) (by first | omega | simp) hG (by first | omega | (simp only [List.length_singleton]; omega)) (by first | omega | (simp only [List.length_singleton]; omega))) ?_
    rintro _ h1 ⟨own1, rfl, hG1⟩
    refine qa ?_
    refine AL_keep [(6,_),(5,_),(0,_),(1,_),(4,_)] ⟨rfl,rfl,rfl,rfl,rfl,trivial⟩ ?_
    refine AL_nil ?_
    refine AW_say (k := 5) (.sl own1 13 (((rotL l y).take (i + 1)).map eRule)) rfl (by rw [rotL_take (by omega)]) ?_
    refine AW_region rfl ?_
    refine qm ?_
    refine qp (v := vn (i + 1)) (PO_inc rfl rfl rfl (by first | omega | simp_all; omega)) ?_
    refine qa ?_
    refine AL_keep [(6,_),(5,_),(0,_),(1,_),(4,_)] ⟨rfl,rfl,rfl,rfl,rfl,trivial⟩ ?_
    refine AL_nil ?_
    exact ⟨(i + 1, own1, h1), ⟨by omega, by rw [← rotL_take (by omega)]; exact hG1⟩, by simp only []; omega, ⟨rfl, ⟨rfl, rfl, rfl, rfl, rfl, trivial⟩, rfl, rfl, rfl⟩⟩
   ·replace hc5 := of_decide_eq_false hc5
    refine AW_any (k := 5) rfl ?_
    refine AW_say (k := 5) (.sl .any 13 ((rotL l y).map eRule)) rfl (by rw [List.take_of_length_le (by rw [rotL_len]; omega)]) ?_
    refine AW_exit ?_
    refine AW_seq (AW_seq (AW_region rfl ?_))
    refine qa (v := vi 0) ?_
    refine AL_nil (AW_block ?_)
    refine AW_iter (fun (j : Nat) => [(7, .lit (.int .i64 ((j : Nat) : Int))), (5, .sl .any 13 ((rotL l y).map eRule)), (0, .sl .any 13 (l.map eRule)), (4, .lit (.bool false))]) (fun (j : Nat) => hp) (fun (j : Nat) => j ≤ l.length) (fun (j : Nat) => l.length - j) (0) ⟨rfl, rfl, rfl, rfl, trivial⟩ rfl (by omega) ?_
    intro j hIj
    refine AW_seq (AW_seq (AW_region rfl ?_))
    refine qm ?_
    refine qm ?_
    refine qp (v := vi (l.length : Int)) (PO_lenM rfl un22 rfl) ?_
    refine qp (v := vb (decide ((((j : Nat) : Int) : Int) < (l.length : Int)))) pI ?_
    refine AL_keep [(7,_),(5,_),(0,_),(4,_),(48,_)] ⟨rfl,rfl,rfl,rfl,rfl,trivial⟩ ?_
    refine AL_nil ?_
    refine AW_cond _ rfl (fun hc9 => ?_) (fun hc9 => ?_)
    ·replace hc9 := of_decide_eq_true hc9
     obtain ⟨r, hrr, hdr, hmr⟩ := drop_at (l := l) (i := j) (by omega)
     refine AW_skip (AW_seq (AW_block (AW_seq (AW_seq (AW_region rfl ?_)))))
     refine qm ?_
     refine qm ?_
     refine qp (v := .ip (eRule r)) (PO_indexAddr rfl un22 ty46 rfl rfl (by first | decide | omega) (mget hrr)) ?_
     refine qp (v := .ip (List.drop 0 (eRule r))) (PO_fieldAddr rfl f46_0 rfl) ?_
     refine qp (v := .ip (List.drop (1 * 4) (List.drop 0 (eRule r)))) (PO_indexAddr_arr (i := 1) rfl un43 ty41 rfl rfl (by decide) (by decide)) ?_
     refine qp (v := .ip (List.drop 0 (List.drop (1 * 4) (List.drop 0 (eRule r))))) (PO_fieldAddr rfl f41_0 rfl) ?_
     refine qp (v := vs r.head.b.var) (PO_load rfl ty9 rfl rfl) ?_
     refine qp (v := vb (decide (r.head.b.var ≠ ⟨#[]⟩))) (PO_str rfl rfl rfl rfl) ?_
     refine AL_keep [(7,_),(5,_),(0,_),(4,_),(58,_)] ⟨rfl,rfl,rfl,rfl,rfl,trivial⟩ ?_
     refine AL_nil ?_
     refine AW_cond _ rfl (fun hc11 => ?_) (fun hc11 => ?_)
     ·replace hc11 := of_decide_eq_true hc11
      refine AW_exit ?_
      refine AW_region rfl ?_
      refine qm ?_
      refine qp (v := vn (j + 1)) (PO_inc rfl rfl rfl (by first | omega | simp_all; omega)) ?_
      refine qa ?_
      refine AL_keep [(7,_),(5,_),(0,_),(4,_)] ⟨rfl,rfl,rfl,rfl,trivial⟩ ?_
      refine AL_nil ?_
      exact ⟨j + 1, by omega, by omega, ⟨rfl, ⟨rfl, rfl, rfl, rfl, trivial⟩, rfl, rfl, rfl⟩⟩
     ·replace hc11 := of_decide_eq_false hc11
      refine AW_skip (AW_seq (AW_region rfl ?_))
      refine qm ?_
      refine qm ?_
      refine qp (v := .ip (eRule r)) (PO_indexAddr rfl un22 ty46 rfl rfl (by first | decide | omega) (mget hrr)) ?_
      refine qp (v := .ip (List.drop 0 (eRule r))) (PO_fieldAddr rfl f46_0 rfl) ?_
      refine qp (v := .ip (List.drop (1 * 4) (List.drop 0 (eRule r)))) (PO_indexAddr_arr (i := 1) rfl un43 ty41 rfl rfl (by decide) (by decide)) ?_
      refine qp (v := .ip (List.drop 1 (List.drop (1 * 4) (List.drop 0 (eRule r))))) (PO_fieldAddr rfl f41_1 rfl) ?_
      refine qp (v := .agg (eTerm r.head.b.term)) (PO_load rfl ty25 rfl rfl) ?_
      refine qm ?_
      refine qp (v := .tup [.lit (.int .i64 ((numberU l r.head.b.term).1)), .lit (.int .i64 ((numberU l r.head.b.term).2))]) (PO_call rfl rfl rfl (number_ _ _ (by assumption) (by assumption))) ?_
      refine qm ?_
      refine qp (v := vi ((numberU l r.head.b.term).1)) (PO_extract rfl rfl rfl) ?_
      refine qp (v := vi ((numberU l r.head.b.term).2)) (PO_extract rfl rfl rfl) ?_
      refine qa ?_
      refine qa ?_
      refine AL_keep [(7,_),(5,_),(0,_),(4,_),(8,_),(9,_)] ⟨rfl,rfl,rfl,rfl,rfl,rfl,trivial⟩ ?_
      refine AL_nil (AW_seq (AW_region rfl ?_))
      refine qm ?_
      refine qm ?_
      refine qp (v := .ip (eRule r)) (PO_indexAddr rfl un22 ty46 rfl rfl (by first | decide | omega) (mget hrr)) ?_
      refine qp (v := .ip (List.drop 0 (eRule r))) (PO_fieldAddr rfl f46_0 rfl) ?_
      refine qp (v := .ip (List.drop (1 * 4) (List.drop 0 (eRule r)))) (PO_indexAddr_arr (i := 1) rfl un43 ty41 rfl rfl (by decide) (by decide)) ?_
      refine qp (v := .ip (List.drop 1 (List.drop (1 * 4) (List.drop 0 (eRule r))))) (PO_fieldAddr rfl f41_1 rfl) ?_
      refine qp (v := .agg (eTerm r.head.b.term)) (PO_load rfl ty25 rfl rfl) ?_
      refine qm ?_
      refine qp (v := .tup [.lit (.int .i64 ((numberU (rotL l y) r.head.b.term).1)), .lit (.int .i64 ((numberU (rotL l y) r.head.b.term).2))]) (PO_call rfl rfl rfl (number_ _ _ (by assumption) (by assumption))) ?_
      refine qm ?_
      refine qp (v := vi ((numberU (rotL l y) r.head.b.term).1)) (PO_extract rfl rfl rfl) ?_
      refine qp (v := vi ((numberU (rotL l y) r.head.b.term).2)) (PO_extract rfl rfl rfl) ?_
      refine qa ?_
      refine qa ?_
      refine AL_keep [(7,_),(5,_),(0,_),(4,_),(8,_),(9,_),(10,_),(11,_)] ⟨rfl,rfl,rfl,rfl,rfl,rfl,rfl,rfl,trivial⟩ ?_
      refine AL_nil (AW_seq (AW_region rfl ?_))
      refine qm ?_
      refine qp (v := vi (progR l)) (PO_call rfl rfl rfl (prog13_ _ (by assumption))) ?_
      refine qp (v := vb (decide (((progR l) : Int) = 0))) pI ?_
      refine qm ?_
      refine AL_jk 9 95 (vb ((decide (((progR l) : Int) = 0)) && ((decide (((numberU l r.head.b.term).1 : Int) ≠ (numberU (rotL l y) r.head.b.term).1)) || (decide (((numberU l r.head.b.term).2 : Int) ≠ (numberU (rotL l y) r.head.b.term).2))))) [(7,_),(5,_),(0,_),(4,_),(8,_),(9,_),(10,_),(11,_),(83,_),(84,_),(85,_),(86,_)] ⟨rfl,rfl,rfl,rfl,rfl,rfl,rfl,rfl,rfl,rfl,rfl,rfl,trivial⟩ ?_ ?_
      ·refine AL_split 86 _ rfl (fun hg86 => ?_) (fun hg86 => ?_)
       ·refine gm ?_
        refine gm ?_
        refine qg (v := vb (decide (((numberU l r.head.b.term).1 : Int) ≠ (numberU (rotL l y) r.head.b.term).1))) pI ?_
        refine gm ?_
        refine AL_jk 4 94 (vb ((decide (((numberU l r.head.b.term).1 : Int) ≠ (numberU (rotL l y) r.head.b.term).1)) || (decide (((numberU l r.head.b.term).2 : Int) ≠ (numberU (rotL l y) r.head.b.term).2)))) [(7,_),(5,_),(0,_),(4,_),(8,_),(9,_),(10,_),(11,_),(83,_),(84,_),(85,_),(86,_),(87,_),(88,_),(89,_),(90,_)] ⟨rfl,rfl,rfl,rfl,rfl,rfl,rfl,rfl,rfl,rfl,rfl,rfl,rfl,rfl,rfl,rfl,trivial⟩ ?_ ?_
        ·refine AL_split 90 _ rfl (fun hg90 => ?_) (fun hg90 => ?_)
         ·refine qz ?_
          refine qz ?_
          refine qz ?_
          refine gk ?_
          refine AL_say (k := 94) (vb ((decide (((numberU l r.head.b.term).1 : Int) ≠ (numberU (rotL l y) r.head.b.term).1)) || (decide (((numberU l r.head.b.term).2 : Int) ≠ (numberU (rotL l y) r.head.b.term).2)))) rfl (by rw [hg90]; rfl) ?_
          refine AL_say (k := 90) (vb (decide (((numberU l r.head.b.term).1 : Int) ≠ (numberU (rotL l y) r.head.b.term).1))) rfl (by rw [hg90]) ?_
          exact nl ⟨rfl,rfl,rfl,rfl,rfl,rfl,rfl,rfl,rfl,rfl,rfl,rfl,rfl,rfl,rfl,rfl,rfl,trivial⟩
         ·refine gm ?_
          refine gm ?_
          refine qg (v := vb (decide (((numberU l r.head.b.term).2 : Int) ≠ (numberU (rotL l y) r.head.b.term).2))) pI ?_
          refine gk ?_
          refine AL_say (k := 94) (vb ((decide (((numberU l r.head.b.term).1 : Int) ≠ (numberU (rotL l y) r.head.b.term).1)) || (decide (((numberU l r.head.b.term).2 : Int) ≠ (numberU (rotL l y) r.head.b.term).2)))) rfl (by rw [hg90]; rfl) ?_
          refine AL_say (k := 90) (vb (decide (((numberU l r.head.b.term).1 : Int) ≠ (numberU (rotL l y) r.head.b.term).1))) rfl (by rw [hg90]) ?_
          exact nl ⟨rfl,rfl,rfl,rfl,rfl,rfl,rfl,rfl,rfl,rfl,rfl,rfl,rfl,rfl,rfl,rfl,rfl,trivial⟩
        ·refine qk ?_
         refine AL_say (k := 95) (vb ((decide (((progR l) : Int) = 0)) && ((decide (((numberU l r.head.b.term).1 : Int) ≠ (numberU (rotL l y) r.head.b.term).1)) || (decide (((numberU l r.head.b.term).2 : Int) ≠ (numberU (rotL l y) r.head.b.term).2))))) rfl (by rw [hg86]; rfl) ?_
         refine AL_say (k := 86) (vb (decide (((progR l) : Int) = 0))) rfl (by rw [hg86]) ?_
         exact nl ⟨rfl,rfl,rfl,rfl,rfl,rfl,rfl,rfl,rfl,rfl,rfl,rfl,rfl,trivial⟩
       ·refine qz ?_
        refine qz ?_
        refine qz ?_
        refine qz ?_
        refine qy ?_
        refine qy ?_
        refine qy ?_
        refine qz ?_
        refine qk ?_
        refine AL_say (k := 95) (vb ((decide (((progR l) : Int) = 0)) && ((decide (((numberU l r.head.b.term).1 : Int) ≠ (numberU (rotL l y) r.head.b.term).1)) || (decide (((numberU l r.head.b.term).2 : Int) ≠ (numberU (rotL l y) r.head.b.term).2))))) rfl (by rw [hg86]; rfl) ?_
        refine AL_say (k := 86) (vb (decide (((progR l) : Int) = 0))) rfl (by rw [hg86]) ?_
        exact nl ⟨rfl,rfl,rfl,rfl,rfl,rfl,rfl,rfl,rfl,rfl,rfl,rfl,rfl,trivial⟩
      ·refine AL_keep [(95,_),(7,_),(5,_),(0,_),(4,_),(8,_),(9,_),(10,_),(11,_)] ⟨rfl,rfl,rfl,rfl,rfl,rfl,rfl,rfl,rfl,trivial⟩ ?_
       refine AL_nil ?_
       refine AW_cond _ rfl (fun hc14 => ?_) (fun hc14 => ?_)
       ·simp only [Bool.and_eq_true, decide_eq_true_eq] at hc14
        rw [hrot hfew hc14.1 r.head.b.term] at hc14
        simp at hc14
       ·refine AW_skip (AW_region rfl ?_)
        refine qm ?_
        refine qp (v := vn (j + 1)) (PO_inc rfl rfl rfl (by first | omega | simp_all; omega)) ?_
        refine qa ?_
        refine AL_keep [(7,_),(5,_),(0,_),(4,_),(8,_),(9,_),(10,_),(11,_)] ⟨rfl,rfl,rfl,rfl,rfl,rfl,rfl,rfl,trivial⟩ ?_
        refine AL_nil ?_
        exact ⟨j + 1, by omega, by omega, ⟨rfl, ⟨rfl, rfl, rfl, rfl, trivial⟩, rfl, rfl, rfl⟩⟩
    ·replace hc9 := of_decide_eq_false hc9
     refine AW_exit ?_
     refine AW_seq (AW_region rfl ?_)
     refine qp (v := vb true) (PO_call rfl rfl rfl known_) ?_
     refine qa (v := vb true) ?_
     refine AL_keep [(7,_),(5,_),(0,_),(4,_)] ⟨rfl,rfl,rfl,rfl,trivial⟩ ?_
     refine AL_nil ?_
     refine AW_ret ?_
     exact ret_le2 (.inl rfl) rfl rfl hG.le
end Go.AM.Tryd
end
