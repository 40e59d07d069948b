/- A part of the proof: walks of the code and laws that they use (We, Wf, Wg, Wh, Wi). Conditions: as each theorem names them. -/
import Derived.Test.YtdognapppnfpiaaDoorB10
section
set_option maxRecDepth 100000
set_option linter.unusedVariables false
set_option linter.unusedSimpArgs false
namespace Go.AM.Tryd
open Go Go.AM Go.AM.D
abbrev xsd : ByteArray := ⟨#[104, 116, 116, 112, 58, 47, 47, 119, 119, 119, 46, 119, 51, 46, 111, 114, 103, 47, 50, 48, 48, 49, 47, 88, 77, 76, 83, 99, 104, 101, 109, 97, 35, 115, 116, 114, 105, 110, 103]⟩
def valR (s : ByteArray) : Bool := decide ((s.size : Int) ≤ 4000) && validR s
def termR (t : Term) : Bool := if t.kind = 1 then iriR t.text && decide (t.extra = ⟨#[]⟩) else if t.kind = 2 then wordF t.text 64 && decide (t.extra = ⟨#[]⟩) else if t.kind = 3 then valR t.text && decide (t.extra = ⟨#[]⟩) else if t.kind = 4 then valR t.text && tagR t.extra else if t.kind = 5 then (valR t.text && iriR t.extra) && decide (t.extra ≠ xsd) else false
theorem term77_ (t : Term) (ht : okT t) : PFn PR (.fn (.func 77) [] []) [.agg (eTerm t)] (.lit (.bool (termR t))) := by
 have h1 := ht.1
 have h2 := ht.2
 refine PFn_of Go.Proofs.Tryd.func77 rfl (by rfl) Go.Proofs.Tryd.ntmps77 rfl (by simp) fun h => ?_
 refine AW_seq (AW_region rfl ?_)
 refine qp (v := .ip (eTerm t)) (PO_boxA rfl rfl) ?_
 refine qa (v := vb false) ?_
 refine AL_nil (AW_seq (AW_region rfl ?_))
 refine qp (v := .ip (List.drop 1 (eTerm t))) (PO_fieldAddr rfl f25_1 rfl) ?_
 refine qp (v := vs t.text) (PO_load rfl ty9 rfl rfl) ?_
 refine qp (v := vi (t.text.size : Int)) (PO_len_str rfl un9 rfl) ?_
 refine qp (v := vb (decide (((t.text.size : Int) : Int) ≤ 4000))) pI ?_
 refine qm ?_
 refine AL_jk 4 12 (vb ((decide (((t.text.size : Int) : Int) ≤ 4000)) && (validR t.text))) [(0,_),(1,_),(2,_),(4,_),(5,_),(6,_),(7,_),(8,_)] ⟨rfl,rfl,rfl,rfl,rfl,rfl,rfl,rfl,trivial⟩ ?_ ?_
 ·refine AL_split 8 _ rfl (fun hg8 => ?_) (fun hg8 => ?_)
  ·refine qg (v := .ip (List.drop 1 (eTerm t))) (PO_fieldAddr rfl f25_1 rfl) ?_
   refine qg (v := vs t.text) (PO_load rfl ty9 rfl rfl) ?_
   refine qg (v := vb (validR t.text)) (PO_call rfl rfl rfl (valid83_ _ (by first | assumption | omega))) ?_
   refine qk ?_
   refine AL_say (k := 12) (vb ((decide (((t.text.size : Int) : Int) ≤ 4000)) && (validR t.text))) rfl (by rw [hg8]; rfl) ?_
   refine AL_say (k := 8) (vb (decide (((t.text.size : Int) : Int) ≤ 4000))) rfl (by rw [hg8]) ?_
   exact nl ⟨rfl,rfl,rfl,rfl,rfl,rfl,rfl,rfl,rfl,trivial⟩
  ·refine qz ?_
   refine qz ?_
   refine qz ?_
   refine qk ?_
   refine AL_say (k := 12) (vb ((decide (((t.text.size : Int) : Int) ≤ 4000)) && (validR t.text))) rfl (by rw [hg8]; rfl) ?_
   refine AL_say (k := 8) (vb (decide (((t.text.size : Int) : Int) ≤ 4000))) rfl (by rw [hg8]) ?_
   exact nl ⟨rfl,rfl,rfl,rfl,rfl,rfl,rfl,rfl,rfl,trivial⟩
 ·refine qa ?_
  refine AL_keep [(0,_),(1,_),(2,_),(3,_)] ⟨rfl,rfl,rfl,rfl,trivial⟩ ?_
  refine AL_nil (AW_seq (AW_seq (AW_region rfl ?_)))
  refine qp (v := .ip (List.drop 0 (eTerm t))) (PO_fieldAddr rfl f25_0 rfl) ?_
  refine qp (v := vi t.kind) (PO_load rfl ty23 rfl rfl) ?_
  refine AL_keep [(0,_),(1,_),(2,_),(3,_),(14,_)] ⟨rfl,rfl,rfl,rfl,rfl,trivial⟩ ?_
  refine AL_nil (AW_block (AW_seq (AW_region rfl ?_)))
  refine qp (v := vb (decide ((t.kind : Int) = 1))) pI ?_
  refine qa ?_
  refine AL_keep [(0,_),(1,_),(2,_),(3,_),(14,_),(15,_)] ⟨rfl,rfl,rfl,rfl,rfl,rfl,trivial⟩ ?_
  refine AL_nil ?_
  refine AW_cond _ rfl (fun hc3 => ?_) (fun hc3 => ?_)
  ·replace hc3 := of_decide_eq_true hc3
   refine AW_seq (AW_region rfl ?_)
   refine qp (v := .ip (List.drop 1 (eTerm t))) (PO_fieldAddr rfl f25_1 rfl) ?_
   refine qp (v := vs t.text) (PO_load rfl ty9 rfl rfl) ?_
   refine qp (v := vb (iriR t.text)) (PO_call rfl rfl rfl (iri84_ _ (by first | assumption | omega))) ?_
   refine qm ?_
   refine AL_jk 4 24 (vb ((iriR t.text) && (decide (t.extra = ⟨#[]⟩)))) [(0,_),(1,_),(2,_),(3,_),(14,_),(17,_),(18,_),(19,_),(20,_)] ⟨rfl,rfl,rfl,rfl,rfl,rfl,rfl,rfl,rfl,trivial⟩ ?_ ?_
   ·refine AL_split 20 _ rfl (fun hg20 => ?_) (fun hg20 => ?_)
    ·refine qg (v := .ip (List.drop 2 (eTerm t))) (PO_fieldAddr rfl f25_2 rfl) ?_
     refine qg (v := vs t.extra) (PO_load rfl ty9 rfl rfl) ?_
     refine qg (v := vb (decide (t.extra = ⟨#[]⟩))) (PO_str rfl rfl rfl rfl) ?_
     refine qk ?_
     refine AL_say (k := 24) (vb ((iriR t.text) && (decide (t.extra = ⟨#[]⟩)))) rfl (by rw [hg20]; rfl) ?_
     refine AL_say (k := 20) (vb (iriR t.text)) rfl (by rw [hg20]) ?_
     exact nl ⟨rfl,rfl,rfl,rfl,rfl,rfl,rfl,rfl,rfl,rfl,trivial⟩
    ·refine qz ?_
     refine qz ?_
     refine qz ?_
     refine qk ?_
     refine AL_say (k := 24) (vb ((iriR t.text) && (decide (t.extra = ⟨#[]⟩)))) rfl (by rw [hg20]; rfl) ?_
     refine AL_say (k := 20) (vb (iriR t.text)) rfl (by rw [hg20]) ?_
     exact nl ⟨rfl,rfl,rfl,rfl,rfl,rfl,rfl,rfl,rfl,rfl,trivial⟩
   ·refine qa ?_
    refine AL_keep [(0,_),(1,_),(2,_),(3,_),(14,_)] ⟨rfl,rfl,rfl,rfl,rfl,trivial⟩ ?_
    refine AL_nil ?_
    refine AW_ret ?_
    exact ret_le2 (.inl rfl) rfl (by rw [termR, if_pos hc3]) (.refl _)
  ·replace hc3 := of_decide_eq_false hc3
   refine AW_seq (AW_region rfl ?_)
   refine qp (v := vb (decide ((t.kind : Int) = 2))) pI ?_
   refine qa ?_
   refine AL_keep [(0,_),(1,_),(2,_),(3,_),(14,_),(25,_)] ⟨rfl,rfl,rfl,rfl,rfl,rfl,trivial⟩ ?_
   refine AL_nil ?_
   refine AW_cond _ rfl (fun hc5 => ?_) (fun hc5 => ?_)
   ·replace hc5 := of_decide_eq_true hc5
    refine AW_seq (AW_region rfl ?_)
    refine qp (v := .ip (List.drop 1 (eTerm t))) (PO_fieldAddr rfl f25_1 rfl) ?_
    refine qp (v := vs t.text) (PO_load rfl ty9 rfl rfl) ?_
    refine qp (v := vb (wordF t.text 64)) (PO_call rfl rfl rfl (word_ _ _ (by first | assumption | omega))) ?_
    refine qm ?_
    refine AL_jk 4 34 (vb ((wordF t.text 64) && (decide (t.extra = ⟨#[]⟩)))) [(0,_),(1,_),(2,_),(3,_),(14,_),(27,_),(28,_),(29,_),(30,_)] ⟨rfl,rfl,rfl,rfl,rfl,rfl,rfl,rfl,rfl,trivial⟩ ?_ ?_
    ·refine AL_split 30 _ rfl (fun hg30 => ?_) (fun hg30 => ?_)
     ·refine qg (v := .ip (List.drop 2 (eTerm t))) (PO_fieldAddr rfl f25_2 rfl) ?_
      refine qg (v := vs t.extra) (PO_load rfl ty9 rfl rfl) ?_
      refine qg (v := vb (decide (t.extra = ⟨#[]⟩))) (PO_str rfl rfl rfl rfl) ?_
      refine qk ?_
      refine AL_say (k := 34) (vb ((wordF t.text 64) && (decide (t.extra = ⟨#[]⟩)))) rfl (by rw [hg30]; rfl) ?_
      refine AL_say (k := 30) (vb (wordF t.text 64)) rfl (by rw [hg30]) ?_
      exact nl ⟨rfl,rfl,rfl,rfl,rfl,rfl,rfl,rfl,rfl,rfl,trivial⟩
     ·refine qz ?_
      refine qz ?_
      refine qz ?_
      refine qk ?_
      refine AL_say (k := 34) (vb ((wordF t.text 64) && (decide (t.extra = ⟨#[]⟩)))) rfl (by rw [hg30]; rfl) ?_
      refine AL_say (k := 30) (vb (wordF t.text 64)) rfl (by rw [hg30]) ?_
      exact nl ⟨rfl,rfl,rfl,rfl,rfl,rfl,rfl,rfl,rfl,rfl,trivial⟩
    ·refine qa ?_
     refine AL_keep [(0,_),(1,_),(2,_),(3,_),(14,_)] ⟨rfl,rfl,rfl,rfl,rfl,trivial⟩ ?_
     refine AL_nil ?_
     refine AW_ret ?_
     exact ret_le2 (.inl rfl) rfl (by rw [termR, if_neg hc3, if_pos hc5]) (.refl _)
   ·replace hc5 := of_decide_eq_false hc5
    refine AW_seq (AW_region rfl ?_)
    refine qp (v := vb (decide ((t.kind : Int) = 3))) pI ?_
    refine qa ?_
    refine AL_keep [(0,_),(1,_),(2,_),(3,_),(14,_),(35,_)] ⟨rfl,rfl,rfl,rfl,rfl,rfl,trivial⟩ ?_
    refine AL_nil ?_
    refine AW_cond _ rfl (fun hc7 => ?_) (fun hc7 => ?_)
    ·replace hc7 := of_decide_eq_true hc7
     refine AW_seq (AW_region rfl ?_)
     refine qm ?_
     refine qm ?_
     refine AL_jk 4 42 (vb (((decide (((t.text.size : Int) : Int) ≤ 4000)) && (validR t.text)) && (decide (t.extra = ⟨#[]⟩)))) [(0,_),(1,_),(2,_),(3,_),(14,_),(37,_),(38,_)] ⟨rfl,rfl,rfl,rfl,rfl,rfl,rfl,trivial⟩ ?_ ?_
     ·refine AL_split 38 _ rfl (fun hg38 => ?_) (fun hg38 => ?_)
      ·refine qg (v := .ip (List.drop 2 (eTerm t))) (PO_fieldAddr rfl f25_2 rfl) ?_
       refine qg (v := vs t.extra) (PO_load rfl ty9 rfl rfl) ?_
       refine qg (v := vb (decide (t.extra = ⟨#[]⟩))) (PO_str rfl rfl rfl rfl) ?_
       refine qk ?_
       refine AL_say (k := 42) (vb (((decide (((t.text.size : Int) : Int) ≤ 4000)) && (validR t.text)) && (decide (t.extra = ⟨#[]⟩)))) rfl (by rw [hg38]; rfl) ?_
       refine AL_say (k := 38) (vb ((decide (((t.text.size : Int) : Int) ≤ 4000)) && (validR t.text))) rfl (by rw [hg38]) ?_
       exact nl ⟨rfl,rfl,rfl,rfl,rfl,rfl,rfl,rfl,trivial⟩
      ·refine qz ?_
       refine qz ?_
       refine qz ?_
       refine qk ?_
       refine AL_say (k := 42) (vb (((decide (((t.text.size : Int) : Int) ≤ 4000)) && (validR t.text)) && (decide (t.extra = ⟨#[]⟩)))) rfl (by rw [hg38]; rfl) ?_
       refine AL_say (k := 38) (vb ((decide (((t.text.size : Int) : Int) ≤ 4000)) && (validR t.text))) rfl (by rw [hg38]) ?_
       exact nl ⟨rfl,rfl,rfl,rfl,rfl,rfl,rfl,rfl,trivial⟩
     ·refine qa ?_
      refine AL_keep [(0,_),(1,_),(2,_),(3,_),(14,_)] ⟨rfl,rfl,rfl,rfl,rfl,trivial⟩ ?_
      refine AL_nil ?_
      refine AW_ret ?_
      exact ret_le2 (.inl rfl) rfl (by rw [termR, if_neg hc3, if_neg hc5, if_pos hc7] <;> rfl) (.refl _)
    ·replace hc7 := of_decide_eq_false hc7
     refine AW_seq (AW_region rfl ?_)
     refine qp (v := vb (decide ((t.kind : Int) = 4))) pI ?_
     refine qa ?_
     refine AL_keep [(0,_),(1,_),(2,_),(3,_),(14,_),(43,_)] ⟨rfl,rfl,rfl,rfl,rfl,rfl,trivial⟩ ?_
     refine AL_nil ?_
     refine AW_cond _ rfl (fun hc9 => ?_) (fun hc9 => ?_)
     ·replace hc9 := of_decide_eq_true hc9
      refine AW_seq (AW_region rfl ?_)
      refine qm ?_
      refine qm ?_
      refine AL_jk 4 50 (vb (((decide (((t.text.size : Int) : Int) ≤ 4000)) && (validR t.text)) && (tagR t.extra))) [(0,_),(1,_),(2,_),(3,_),(14,_),(45,_),(46,_)] ⟨rfl,rfl,rfl,rfl,rfl,rfl,rfl,trivial⟩ ?_ ?_
      ·refine AL_split 46 _ rfl (fun hg46 => ?_) (fun hg46 => ?_)
       ·refine qg (v := .ip (List.drop 2 (eTerm t))) (PO_fieldAddr rfl f25_2 rfl) ?_
        refine qg (v := vs t.extra) (PO_load rfl ty9 rfl rfl) ?_
        refine qg (v := vb (tagR t.extra)) (PO_call rfl rfl rfl (tag85_ _ (by first | assumption | omega))) ?_
        refine qk ?_
        refine AL_say (k := 50) (vb (((decide (((t.text.size : Int) : Int) ≤ 4000)) && (validR t.text)) && (tagR t.extra))) rfl (by rw [hg46]; rfl) ?_
        refine AL_say (k := 46) (vb ((decide (((t.text.size : Int) : Int) ≤ 4000)) && (validR t.text))) rfl (by rw [hg46]) ?_
        exact nl ⟨rfl,rfl,rfl,rfl,rfl,rfl,rfl,rfl,trivial⟩
       ·refine qz ?_
        refine qz ?_
        refine qz ?_
        refine qk ?_
        refine AL_say (k := 50) (vb (((decide (((t.text.size : Int) : Int) ≤ 4000)) && (validR t.text)) && (tagR t.extra))) rfl (by rw [hg46]; rfl) ?_
        refine AL_say (k := 46) (vb ((decide (((t.text.size : Int) : Int) ≤ 4000)) && (validR t.text))) rfl (by rw [hg46]) ?_
        exact nl ⟨rfl,rfl,rfl,rfl,rfl,rfl,rfl,rfl,trivial⟩
      ·refine qa ?_
       refine AL_keep [(0,_),(1,_),(2,_),(3,_),(14,_)] ⟨rfl,rfl,rfl,rfl,rfl,trivial⟩ ?_
       refine AL_nil ?_
       refine AW_ret ?_
       exact ret_le2 (.inl rfl) rfl (by rw [termR, if_neg hc3, if_neg hc5, if_neg hc7, if_pos hc9] <;> rfl) (.refl _)
     ·replace hc9 := of_decide_eq_false hc9
      refine AW_seq (AW_region rfl ?_)
      refine qp (v := vb (decide ((t.kind : Int) = 5))) pI ?_
      refine qa ?_
      refine AL_keep [(0,_),(1,_),(2,_),(3,_),(14,_),(51,_)] ⟨rfl,rfl,rfl,rfl,rfl,rfl,trivial⟩ ?_
      refine AL_nil ?_
      refine AW_cond _ rfl (fun hc11 => ?_) (fun hc11 => ?_)
      ·replace hc11 := of_decide_eq_true hc11
       refine AW_seq (AW_region rfl ?_)
       refine qm ?_
       refine qm ?_
       refine AL_jk 4 58 (vb (((decide (((t.text.size : Int) : Int) ≤ 4000)) && (validR t.text)) && (iriR t.extra))) [(0,_),(1,_),(2,_),(3,_),(14,_),(53,_),(54,_)] ⟨rfl,rfl,rfl,rfl,rfl,rfl,rfl,trivial⟩ ?_ ?_
       ·refine AL_split 54 _ rfl (fun hg54 => ?_) (fun hg54 => ?_)
        ·refine qg (v := .ip (List.drop 2 (eTerm t))) (PO_fieldAddr rfl f25_2 rfl) ?_
         refine qg (v := vs t.extra) (PO_load rfl ty9 rfl rfl) ?_
         refine qg (v := vb (iriR t.extra)) (PO_call rfl rfl rfl (iri84_ _ (by first | assumption | omega))) ?_
         refine qk ?_
         refine AL_say (k := 58) (vb (((decide (((t.text.size : Int) : Int) ≤ 4000)) && (validR t.text)) && (iriR t.extra))) rfl (by rw [hg54]; rfl) ?_
         refine AL_say (k := 54) (vb ((decide (((t.text.size : Int) : Int) ≤ 4000)) && (validR t.text))) rfl (by rw [hg54]) ?_
         exact nl ⟨rfl,rfl,rfl,rfl,rfl,rfl,rfl,rfl,trivial⟩
        ·refine qz ?_
         refine qz ?_
         refine qz ?_
         refine qk ?_
         refine AL_say (k := 58) (vb (((decide (((t.text.size : Int) : Int) ≤ 4000)) && (validR t.text)) && (iriR t.extra))) rfl (by rw [hg54]; rfl) ?_
         refine AL_say (k := 54) (vb ((decide (((t.text.size : Int) : Int) ≤ 4000)) && (validR t.text))) rfl (by rw [hg54]) ?_
         exact nl ⟨rfl,rfl,rfl,rfl,rfl,rfl,rfl,rfl,trivial⟩
       ·refine qm ?_
        refine AL_jk 4 63 (vb ((((decide (((t.text.size : Int) : Int) ≤ 4000)) && (validR t.text)) && (iriR t.extra)) && (decide (t.extra ≠ ⟨#[104, 116, 116, 112, 58, 47, 47, 119, 119, 119, 46, 119, 51, 46, 111, 114, 103, 47, 50, 48, 48, 49, 47, 88, 77, 76, 83, 99, 104, 101, 109, 97, 35, 115, 116, 114, 105, 110, 103]⟩)))) [(58,_),(0,_),(1,_),(2,_),(3,_),(14,_),(53,_),(54,_),(59,_)] ⟨rfl,rfl,rfl,rfl,rfl,rfl,rfl,rfl,rfl,trivial⟩ ?_ ?_
        ·refine AL_split 59 _ rfl (fun hg59 => ?_) (fun hg59 => ?_)
         ·refine qg (v := .ip (List.drop 2 (eTerm t))) (PO_fieldAddr rfl f25_2 rfl) ?_
          refine qg (v := vs t.extra) (PO_load rfl ty9 rfl rfl) ?_
          refine qg (v := vb (decide (t.extra ≠ ⟨#[104, 116, 116, 112, 58, 47, 47, 119, 119, 119, 46, 119, 51, 46, 111, 114, 103, 47, 50, 48, 48, 49, 47, 88, 77, 76, 83, 99, 104, 101, 109, 97, 35, 115, 116, 114, 105, 110, 103]⟩))) (PO_str rfl rfl rfl rfl) ?_
          refine qk ?_
          refine AL_say (k := 63) (vb ((((decide (((t.text.size : Int) : Int) ≤ 4000)) && (validR t.text)) && (iriR t.extra)) && (decide (t.extra ≠ ⟨#[104, 116, 116, 112, 58, 47, 47, 119, 119, 119, 46, 119, 51, 46, 111, 114, 103, 47, 50, 48, 48, 49, 47, 88, 77, 76, 83, 99, 104, 101, 109, 97, 35, 115, 116, 114, 105, 110, 103]⟩)))) rfl (by rw [hg59]; rfl) ?_
          refine AL_say (k := 59) (vb (((decide (((t.text.size : Int) : Int) ≤ 4000)) && (validR t.text)) && (iriR t.extra))) rfl (by rw [hg59]) ?_
          exact nl ⟨rfl,rfl,rfl,rfl,rfl,rfl,rfl,rfl,rfl,rfl,trivial⟩
         ·refine qz ?_
          refine qz ?_
          refine qz ?_
          refine qk ?_
          refine AL_say (k := 63) (vb ((((decide (((t.text.size : Int) : Int) ≤ 4000)) && (validR t.text)) && (iriR t.extra)) && (decide (t.extra ≠ ⟨#[104, 116, 116, 112, 58, 47, 47, 119, 119, 119, 46, 119, 51, 46, 111, 114, 103, 47, 50, 48, 48, 49, 47, 88, 77, 76, 83, 99, 104, 101, 109, 97, 35, 115, 116, 114, 105, 110, 103]⟩)))) rfl (by rw [hg59]; rfl) ?_
          refine AL_say (k := 59) (vb (((decide (((t.text.size : Int) : Int) ≤ 4000)) && (validR t.text)) && (iriR t.extra))) rfl (by rw [hg59]) ?_
          exact nl ⟨rfl,rfl,rfl,rfl,rfl,rfl,rfl,rfl,rfl,rfl,trivial⟩
        ·refine qa ?_
         refine AL_keep [(0,_),(1,_),(2,_),(3,_),(14,_)] ⟨rfl,rfl,rfl,rfl,rfl,trivial⟩ ?_
         refine AL_nil ?_
         refine AW_ret ?_
         exact ret_le2 (.inl rfl) rfl (by rw [termR, if_neg hc3, if_neg hc5, if_neg hc7, if_neg hc9, if_pos hc11] <;> rfl) (.refl _)
      ·replace hc11 := of_decide_eq_false hc11
       refine AW_skip (AW_seq (AW_region rfl ?_))
       refine qa (v := vb false) ?_
       refine AL_nil ?_
       refine AW_ret ?_
       exact ret_le2 (.inl rfl) rfl (by rw [termR, if_neg hc3, if_neg hc5, if_neg hc7, if_neg hc9, if_neg hc11]) (.refl _)
abbrev t0 : Term := ⟨0, ⟨#[]⟩, ⟨#[]⟩⟩
abbrev s0 : Slot := ⟨⟨#[]⟩, t0⟩
abbrev p0 : Pat := ⟨s0, s0, s0⟩
def slotR (s : Slot) : Bool := if s.var = ⟨#[]⟩ then termR s.term else decide (s.term = t0) && wordF s.var 32
def patR (p : Pat) : Bool := (slotR p.a && slotR p.b) && slotR p.c
def partR (l : Lt) : Bool := if (decide (l.kind = 1) || decide (l.kind = 2)) = true then (patR l.pat && decide (l.a = s0)) && decide (l.b = s0) else (((decide (l.kind = 3) || decide (l.kind = 4)) && decide (l.pat = p0)) && slotR l.a) && slotR l.b
def bodyR (q : Bool) : List Lt → Bool
 | [] => q
 | x :: b => if (!partR x) = true then false else bodyR q b
def mayR (r : Rule) : Bool := if (r.body.length : Int) > 64 then false else bodyR (patR r.head) r.body
theorem slot64_ (s : Slot) (hok : okS s) : PFn PR (.fn (.func 64) [] []) [.agg (eSlot s)] (.lit (.bool (slotR s))) := by
 have h1 := hok.1
 refine PFn_of Go.Proofs.Tryd.func64 rfl (by rfl) Go.Proofs.Tryd.ntmps64 rfl (by simp) fun h => ?_
 refine AW_seq (AW_region rfl ?_)
 refine qp (v := .ip (eSlot s)) (PO_boxA rfl rfl) ?_
 refine qa (v := vb false) ?_
 refine AL_nil (AW_seq (AW_seq (AW_region rfl ?_)))
 refine qp (v := .ip (List.drop 0 (eSlot s))) (PO_fieldAddr rfl f41_0 rfl) ?_
 refine qp (v := vs s.var) (PO_load rfl ty9 rfl rfl) ?_
 refine qp (v := vb (decide (s.var = ⟨#[]⟩))) (PO_str rfl rfl rfl rfl) ?_
 refine AL_keep [(0,_),(1,_),(2,_),(5,_)] ⟨rfl,rfl,rfl,rfl,trivial⟩ ?_
 refine AL_nil ?_
 refine AW_cond _ rfl (fun hc1 => ?_) (fun hc1 => ?_)
 ·replace hc1 := of_decide_eq_true hc1
  refine AW_seq (AW_region rfl ?_)
  refine qp (v := .ip (List.drop 1 (eSlot s))) (PO_fieldAddr rfl f41_1 rfl) ?_
  refine qp (v := .agg (eTerm s.term)) (PO_load rfl ty25 rfl rfl) ?_
  refine qp (v := vb (termR s.term)) (PO_call rfl rfl rfl (term77_ _ (by first | assumption | exact hok.2))) ?_
  refine qa ?_
  refine AL_keep [(0,_),(1,_),(2,_)] ⟨rfl,rfl,rfl,trivial⟩ ?_
  refine AL_nil ?_
  refine AW_ret ?_
  exact ret_le2 (.inl rfl) rfl (by rw [slotR, if_pos hc1]) (.refl _)
 ·replace hc1 := of_decide_eq_false hc1
  refine AW_skip (AW_seq (AW_region rfl ?_))
  refine qp (v := .ip (List.drop 1 (eSlot s))) (PO_fieldAddr rfl f41_1 rfl) ?_
  refine qp (v := .agg (eTerm s.term)) (PO_load rfl ty25 rfl rfl) ?_
  refine qp (v := .agg (eTerm (⟨0, ⟨#[]⟩, ⟨#[]⟩⟩ : Term))) (PO_build rfl z25 pl25 rfl rfl) ?_
  refine qp (v := vb (decide (s.term = (⟨0, ⟨#[]⟩, ⟨#[]⟩⟩ : Term)))) (PO_eqv (PO_aggEq rfl eqm25 eg25 rfl rfl rfl rfl rfl rfl) (eTerm_eq _ _)) ?_
  refine qm ?_
  refine AL_jk 4 17 (vb ((decide (s.term = (⟨0, ⟨#[]⟩, ⟨#[]⟩⟩ : Term))) && (wordF s.var 32))) [(0,_),(1,_),(2,_),(9,_),(10,_),(11,_),(12,_),(13,_)] ⟨rfl,rfl,rfl,rfl,rfl,rfl,rfl,rfl,trivial⟩ ?_ ?_
  ·refine AL_split 13 _ rfl (fun hg13 => ?_) (fun hg13 => ?_)
   ·refine qg (v := .ip (List.drop 0 (eSlot s))) (PO_fieldAddr rfl f41_0 rfl) ?_
    refine qg (v := vs s.var) (PO_load rfl ty9 rfl rfl) ?_
    refine qg (v := vb (wordF s.var 32)) (PO_call rfl rfl rfl (word_ _ _ (by first | assumption | omega))) ?_
    refine qk ?_
    refine AL_say (k := 17) (vb ((decide (s.term = (⟨0, ⟨#[]⟩, ⟨#[]⟩⟩ : Term))) && (wordF s.var 32))) rfl (by rw [hg13]; rfl) ?_
    refine AL_say (k := 13) (vb (decide (s.term = (⟨0, ⟨#[]⟩, ⟨#[]⟩⟩ : Term)))) rfl (by rw [hg13]) ?_
    exact nl ⟨rfl,rfl,rfl,rfl,rfl,rfl,rfl,rfl,rfl,trivial⟩
   ·refine qz ?_
    refine qz ?_
    refine qz ?_
    refine qk ?_
    refine AL_say (k := 17) (vb ((decide (s.term = (⟨0, ⟨#[]⟩, ⟨#[]⟩⟩ : Term))) && (wordF s.var 32))) rfl (by rw [hg13]; rfl) ?_
    refine AL_say (k := 13) (vb (decide (s.term = (⟨0, ⟨#[]⟩, ⟨#[]⟩⟩ : Term)))) rfl (by rw [hg13]) ?_
    exact nl ⟨rfl,rfl,rfl,rfl,rfl,rfl,rfl,rfl,rfl,trivial⟩
  ·refine qa ?_
   refine AL_keep [(0,_),(1,_),(2,_)] ⟨rfl,rfl,rfl,trivial⟩ ?_
   refine AL_nil ?_
   refine AW_ret ?_
   exact ret_le2 (.inl rfl) rfl (by rw [slotR, if_neg hc1]) (.refl _)
theorem pat45_ (p : Pat) (hok : okP p) : PFn PR (.fn (.func 45) [] []) [.agg (ePat p)] (.lit (.bool (patR p))) := by
 refine PFn_of Go.Proofs.Tryd.func45 rfl (by rfl) Go.Proofs.Tryd.ntmps45 rfl (by simp) fun h => ?_
 refine AW_seq (AW_region rfl ?_)
 refine qp (v := .ip (ePat p)) (PO_boxA rfl rfl) ?_
 refine qa (v := vb false) ?_
 refine AL_nil (AW_seq (AW_region rfl ?_))
 refine qp (v := .ip (List.drop (0 * 4) (ePat p))) (PO_indexAddr_arr (i := 0) rfl un43 ty41 rfl rfl (by decide) (by decide)) ?_
 refine qp (v := .agg (eSlot p.a)) (PO_load rfl ty41 rfl rfl) ?_
 refine qp (v := vb (slotR p.a)) (PO_call rfl rfl rfl (slot64_ _ (by first | assumption | exact hok.1 | exact hok.2.1 | exact hok.2.2))) ?_
 refine qm ?_
 refine AL_jk 4 10 (vb ((slotR p.a) && (slotR p.b))) [(0,_),(1,_),(2,_),(3,_),(4,_),(5,_),(6,_)] ⟨rfl,rfl,rfl,rfl,rfl,rfl,rfl,trivial⟩ ?_ ?_
 ·refine AL_split 6 _ rfl (fun hg6 => ?_) (fun hg6 => ?_)
  ·refine qg (v := .ip (List.drop (1 * 4) (ePat p))) (PO_indexAddr_arr (i := 1) rfl un43 ty41 rfl rfl (by decide) (by decide)) ?_
   refine qg (v := .agg (eSlot p.b)) (PO_load rfl ty41 rfl rfl) ?_
   refine qg (v := vb (slotR p.b)) (PO_call rfl rfl rfl (slot64_ _ (by first | assumption | exact hok.1 | exact hok.2.1 | exact hok.2.2))) ?_
   refine qk ?_
   refine AL_say (k := 10) (vb ((slotR p.a) && (slotR p.b))) rfl (by rw [hg6]; rfl) ?_
   refine AL_say (k := 6) (vb (slotR p.a)) rfl (by rw [hg6]) ?_
   exact nl ⟨rfl,rfl,rfl,rfl,rfl,rfl,rfl,rfl,trivial⟩
  ·refine qz ?_
   refine qz ?_
   refine qz ?_
   refine qk ?_
   refine AL_say (k := 10) (vb ((slotR p.a) && (slotR p.b))) rfl (by rw [hg6]; rfl) ?_
   refine AL_say (k := 6) (vb (slotR p.a)) rfl (by rw [hg6]) ?_
   exact nl ⟨rfl,rfl,rfl,rfl,rfl,rfl,rfl,rfl,trivial⟩
 ·refine qm ?_
  refine AL_jk 4 15 (vb (((slotR p.a) && (slotR p.b)) && (slotR p.c))) [(10,_),(0,_),(1,_),(2,_),(3,_),(4,_),(5,_),(6,_),(11,_)] ⟨rfl,rfl,rfl,rfl,rfl,rfl,rfl,rfl,rfl,trivial⟩ ?_ ?_
  ·refine AL_split 11 _ rfl (fun hg11 => ?_) (fun hg11 => ?_)
   ·refine qg (v := .ip (List.drop (2 * 4) (ePat p))) (PO_indexAddr_arr (i := 2) rfl un43 ty41 rfl rfl (by decide) (by decide)) ?_
    refine qg (v := .agg (eSlot p.c)) (PO_load rfl ty41 rfl rfl) ?_
    refine qg (v := vb (slotR p.c)) (PO_call rfl rfl rfl (slot64_ _ (by first | assumption | exact hok.1 | exact hok.2.1 | exact hok.2.2))) ?_
    refine qk ?_
    refine AL_say (k := 15) (vb (((slotR p.a) && (slotR p.b)) && (slotR p.c))) rfl (by rw [hg11]; rfl) ?_
    refine AL_say (k := 11) (vb ((slotR p.a) && (slotR p.b))) rfl (by rw [hg11]) ?_
    exact nl ⟨rfl,rfl,rfl,rfl,rfl,rfl,rfl,rfl,rfl,rfl,trivial⟩
   ·refine qz ?_
    refine qz ?_
    refine qz ?_
    refine qk ?_
    refine AL_say (k := 15) (vb (((slotR p.a) && (slotR p.b)) && (slotR p.c))) rfl (by rw [hg11]; rfl) ?_
    refine AL_say (k := 11) (vb ((slotR p.a) && (slotR p.b))) rfl (by rw [hg11]) ?_
    exact nl ⟨rfl,rfl,rfl,rfl,rfl,rfl,rfl,rfl,rfl,rfl,trivial⟩
  ·refine qa ?_
   refine AL_keep [(0,_),(1,_),(2,_)] ⟨rfl,rfl,rfl,trivial⟩ ?_
   refine AL_nil ?_
   refine AW_ret ?_
   exact ret_le2 (.inl rfl) rfl (by rfl) (.refl _)
theorem part44_ (l : Lt) (hok : okL l) : PFn PR (.fn (.func 44) [] []) [.agg (eLit l)] (.lit (.bool (partR l))) := by
 refine PFn_of Go.Proofs.Tryd.func44 rfl (by rfl) Go.Proofs.Tryd.ntmps44 rfl (by simp) fun h => ?_
 refine AW_seq (AW_region rfl ?_)
 refine qp (v := .ip (eLit l)) (PO_boxA rfl rfl) ?_
 refine qa (v := vb false) ?_
 refine AL_nil (AW_seq (AW_seq (AW_region rfl ?_)))
 refine qp (v := .ip (List.drop 0 (eLit l))) (PO_fieldAddr rfl f68_0 rfl) ?_
 refine qp (v := vi l.kind) (PO_load rfl ty66 rfl rfl) ?_
 refine qp (v := vb (decide ((l.kind : Int) = 1))) pI ?_
 refine qm ?_
 refine AL_jk 4 10 (vb ((decide ((l.kind : Int) = 1)) || (decide ((l.kind : Int) = 2)))) [(0,_),(1,_),(2,_),(3,_),(4,_),(5,_),(6,_)] ⟨rfl,rfl,rfl,rfl,rfl,rfl,rfl,trivial⟩ ?_ ?_
 ·refine AL_split 6 _ rfl (fun hg6 => ?_) (fun hg6 => ?_)
  ·refine qz ?_
   refine qz ?_
   refine qz ?_
   refine qk ?_
   refine AL_say (k := 10) (vb ((decide ((l.kind : Int) = 1)) || (decide ((l.kind : Int) = 2)))) rfl (by rw [hg6]; rfl) ?_
   refine AL_say (k := 6) (vb (decide ((l.kind : Int) = 1))) rfl (by rw [hg6]) ?_
   exact nl ⟨rfl,rfl,rfl,rfl,rfl,rfl,rfl,rfl,trivial⟩
  ·refine qg (v := .ip (List.drop 0 (eLit l))) (PO_fieldAddr rfl f68_0 rfl) ?_
   refine qg (v := vi l.kind) (PO_load rfl ty66 rfl rfl) ?_
   refine qg (v := vb (decide ((l.kind : Int) = 2))) pI ?_
   refine qk ?_
   refine AL_say (k := 10) (vb ((decide ((l.kind : Int) = 1)) || (decide ((l.kind : Int) = 2)))) rfl (by rw [hg6]; rfl) ?_
   refine AL_say (k := 6) (vb (decide ((l.kind : Int) = 1))) rfl (by rw [hg6]) ?_
   exact nl ⟨rfl,rfl,rfl,rfl,rfl,rfl,rfl,rfl,trivial⟩
 ·refine AL_keep [(10,_),(0,_),(1,_),(2,_)] ⟨rfl,rfl,rfl,rfl,trivial⟩ ?_
  refine AL_nil ?_
  refine AW_cond _ rfl (fun hc1 => ?_) (fun hc1 => ?_)
  ·refine AW_seq (AW_region rfl ?_)
   refine qp (v := .ip (List.drop 1 (eLit l))) (PO_fieldAddr rfl f68_1 rfl) ?_
   refine qp (v := .agg (ePat l.pat)) (PO_load rfl ty43 rfl rfl) ?_
   refine qp (v := vb (patR l.pat)) (PO_call rfl rfl rfl (pat45_ _ (by first | assumption | exact hok.1))) ?_
   refine qm ?_
   refine AL_jk 5 19 (vb ((patR l.pat) && (decide (l.a = (⟨⟨#[]⟩, (⟨0, ⟨#[]⟩, ⟨#[]⟩⟩ : Term)⟩ : Slot))))) [(0,_),(1,_),(2,_),(11,_),(12,_),(13,_),(14,_)] ⟨rfl,rfl,rfl,rfl,rfl,rfl,rfl,trivial⟩ ?_ ?_
   ·refine AL_split 14 _ rfl (fun hg14 => ?_) (fun hg14 => ?_)
    ·refine qg (v := .ip (List.drop 13 (eLit l))) (PO_fieldAddr rfl f68_2 rfl) ?_
     refine qg (v := .agg (eSlot l.a)) (PO_load rfl ty41 rfl rfl) ?_
     refine qg (v := .agg (eSlot (⟨⟨#[]⟩, (⟨0, ⟨#[]⟩, ⟨#[]⟩⟩ : Term)⟩ : Slot))) (PO_build rfl z41 pl41 rfl rfl) ?_
     refine qg (v := vb (decide (l.a = (⟨⟨#[]⟩, (⟨0, ⟨#[]⟩, ⟨#[]⟩⟩ : Term)⟩ : Slot)))) (PO_eqv (PO_aggEq rfl eqm41 eg41 rfl rfl rfl rfl rfl rfl) (eSlot_eq _ _)) ?_
     refine qk ?_
     refine AL_say (k := 19) (vb ((patR l.pat) && (decide (l.a = (⟨⟨#[]⟩, (⟨0, ⟨#[]⟩, ⟨#[]⟩⟩ : Term)⟩ : Slot))))) rfl (by rw [hg14]; rfl) ?_
     refine AL_say (k := 14) (vb (patR l.pat)) rfl (by rw [hg14]) ?_
     exact nl ⟨rfl,rfl,rfl,rfl,rfl,rfl,rfl,rfl,trivial⟩
    ·refine qz ?_
     refine qz ?_
     refine qz ?_
     refine qz ?_
     refine qk ?_
     refine AL_say (k := 19) (vb ((patR l.pat) && (decide (l.a = (⟨⟨#[]⟩, (⟨0, ⟨#[]⟩, ⟨#[]⟩⟩ : Term)⟩ : Slot))))) rfl (by rw [hg14]; rfl) ?_
     refine AL_say (k := 14) (vb (patR l.pat)) rfl (by rw [hg14]) ?_
     exact nl ⟨rfl,rfl,rfl,rfl,rfl,rfl,rfl,rfl,trivial⟩
   ·refine qm ?_
    refine AL_jk 5 25 (vb (((patR l.pat) && (decide (l.a = (⟨⟨#[]⟩, (⟨0, ⟨#[]⟩, ⟨#[]⟩⟩ : Term)⟩ : Slot)))) && (decide (l.b = (⟨⟨#[]⟩, (⟨0, ⟨#[]⟩, ⟨#[]⟩⟩ : Term)⟩ : Slot))))) [(19,_),(0,_),(1,_),(2,_),(11,_),(12,_),(13,_),(14,_),(20,_)] ⟨rfl,rfl,rfl,rfl,rfl,rfl,rfl,rfl,rfl,trivial⟩ ?_ ?_
    ·refine AL_split 20 _ rfl (fun hg20 => ?_) (fun hg20 => ?_)
     ·refine qg (v := .ip (List.drop 17 (eLit l))) (PO_fieldAddr rfl f68_3 rfl) ?_
      refine qg (v := .agg (eSlot l.b)) (PO_load rfl ty41 rfl rfl) ?_
      refine qg (v := .agg (eSlot (⟨⟨#[]⟩, (⟨0, ⟨#[]⟩, ⟨#[]⟩⟩ : Term)⟩ : Slot))) (PO_build rfl z41 pl41 rfl rfl) ?_
      refine qg (v := vb (decide (l.b = (⟨⟨#[]⟩, (⟨0, ⟨#[]⟩, ⟨#[]⟩⟩ : Term)⟩ : Slot)))) (PO_eqv (PO_aggEq rfl eqm41 eg41 rfl rfl rfl rfl rfl rfl) (eSlot_eq _ _)) ?_
      refine qk ?_
      refine AL_say (k := 25) (vb (((patR l.pat) && (decide (l.a = (⟨⟨#[]⟩, (⟨0, ⟨#[]⟩, ⟨#[]⟩⟩ : Term)⟩ : Slot)))) && (decide (l.b = (⟨⟨#[]⟩, (⟨0, ⟨#[]⟩, ⟨#[]⟩⟩ : Term)⟩ : Slot))))) rfl (by rw [hg20]; rfl) ?_
      refine AL_say (k := 20) (vb ((patR l.pat) && (decide (l.a = (⟨⟨#[]⟩, (⟨0, ⟨#[]⟩, ⟨#[]⟩⟩ : Term)⟩ : Slot))))) rfl (by rw [hg20]) ?_
      exact nl ⟨rfl,rfl,rfl,rfl,rfl,rfl,rfl,rfl,rfl,rfl,trivial⟩
     ·refine qz ?_
      refine qz ?_
      refine qz ?_
      refine qz ?_
      refine qk ?_
      refine AL_say (k := 25) (vb (((patR l.pat) && (decide (l.a = (⟨⟨#[]⟩, (⟨0, ⟨#[]⟩, ⟨#[]⟩⟩ : Term)⟩ : Slot)))) && (decide (l.b = (⟨⟨#[]⟩, (⟨0, ⟨#[]⟩, ⟨#[]⟩⟩ : Term)⟩ : Slot))))) rfl (by rw [hg20]; rfl) ?_
      refine AL_say (k := 20) (vb ((patR l.pat) && (decide (l.a = (⟨⟨#[]⟩, (⟨0, ⟨#[]⟩, ⟨#[]⟩⟩ : Term)⟩ : Slot))))) rfl (by rw [hg20]) ?_
      exact nl ⟨rfl,rfl,rfl,rfl,rfl,rfl,rfl,rfl,rfl,rfl,trivial⟩
    ·refine qa ?_
     refine AL_keep [(0,_),(1,_),(2,_)] ⟨rfl,rfl,rfl,trivial⟩ ?_
     refine AL_nil ?_
     refine AW_ret ?_
     exact ret_le2 (.inl rfl) rfl (by rw [partR, if_pos hc1]) (.refl _)
  ·refine AW_skip (AW_seq (AW_region rfl ?_))
   refine qp (v := .ip (List.drop 0 (eLit l))) (PO_fieldAddr rfl f68_0 rfl) ?_
   refine qp (v := vi l.kind) (PO_load rfl ty66 rfl rfl) ?_
   refine qp (v := vb (decide ((l.kind : Int) = 3))) pI ?_
   refine qm ?_
   refine AL_jk 4 33 (vb ((decide ((l.kind : Int) = 3)) || (decide ((l.kind : Int) = 4)))) [(0,_),(1,_),(2,_),(26,_),(27,_),(28,_),(29,_)] ⟨rfl,rfl,rfl,rfl,rfl,rfl,rfl,trivial⟩ ?_ ?_
   ·refine AL_split 29 _ rfl (fun hg29 => ?_) (fun hg29 => ?_)
    ·refine qz ?_
     refine qz ?_
     refine qz ?_
     refine qk ?_
     refine AL_say (k := 33) (vb ((decide ((l.kind : Int) = 3)) || (decide ((l.kind : Int) = 4)))) rfl (by rw [hg29]; rfl) ?_
     refine AL_say (k := 29) (vb (decide ((l.kind : Int) = 3))) rfl (by rw [hg29]) ?_
     exact nl ⟨rfl,rfl,rfl,rfl,rfl,rfl,rfl,rfl,trivial⟩
    ·refine qg (v := .ip (List.drop 0 (eLit l))) (PO_fieldAddr rfl f68_0 rfl) ?_
     refine qg (v := vi l.kind) (PO_load rfl ty66 rfl rfl) ?_
     refine qg (v := vb (decide ((l.kind : Int) = 4))) pI ?_
     refine qk ?_
     refine AL_say (k := 33) (vb ((decide ((l.kind : Int) = 3)) || (decide ((l.kind : Int) = 4)))) rfl (by rw [hg29]; rfl) ?_
     refine AL_say (k := 29) (vb (decide ((l.kind : Int) = 3))) rfl (by rw [hg29]) ?_
     exact nl ⟨rfl,rfl,rfl,rfl,rfl,rfl,rfl,rfl,trivial⟩
   ·refine qm ?_
    refine AL_jk 5 39 (vb (((decide ((l.kind : Int) = 3)) || (decide ((l.kind : Int) = 4))) && (decide (l.pat = (⟨(⟨⟨#[]⟩, (⟨0, ⟨#[]⟩, ⟨#[]⟩⟩ : Term)⟩ : Slot), (⟨⟨#[]⟩, (⟨0, ⟨#[]⟩, ⟨#[]⟩⟩ : Term)⟩ : Slot), (⟨⟨#[]⟩, (⟨0, ⟨#[]⟩, ⟨#[]⟩⟩ : Term)⟩ : Slot)⟩ : Pat))))) [(33,_),(0,_),(1,_),(2,_),(26,_),(27,_),(28,_),(29,_),(34,_)] ⟨rfl,rfl,rfl,rfl,rfl,rfl,rfl,rfl,rfl,trivial⟩ ?_ ?_
    ·refine AL_split 34 _ rfl (fun hg34 => ?_) (fun hg34 => ?_)
     ·refine qg (v := .ip (List.drop 1 (eLit l))) (PO_fieldAddr rfl f68_1 rfl) ?_
      refine qg (v := .agg (ePat l.pat)) (PO_load rfl ty43 rfl rfl) ?_
      refine qg (v := .agg (ePat (⟨(⟨⟨#[]⟩, (⟨0, ⟨#[]⟩, ⟨#[]⟩⟩ : Term)⟩ : Slot), (⟨⟨#[]⟩, (⟨0, ⟨#[]⟩, ⟨#[]⟩⟩ : Term)⟩ : Slot), (⟨⟨#[]⟩, (⟨0, ⟨#[]⟩, ⟨#[]⟩⟩ : Term)⟩ : Slot)⟩ : Pat))) (PO_build_arr rfl z43 un43 ty41 rfl rfl) ?_
      refine qg (v := vb (decide (l.pat = (⟨(⟨⟨#[]⟩, (⟨0, ⟨#[]⟩, ⟨#[]⟩⟩ : Term)⟩ : Slot), (⟨⟨#[]⟩, (⟨0, ⟨#[]⟩, ⟨#[]⟩⟩ : Term)⟩ : Slot), (⟨⟨#[]⟩, (⟨0, ⟨#[]⟩, ⟨#[]⟩⟩ : Term)⟩ : Slot)⟩ : Pat)))) (PO_eqv (PO_aggEq rfl eqm43 eg43 rfl rfl rfl rfl rfl rfl) (ePat_eq _ _)) ?_
      refine qk ?_
      refine AL_say (k := 39) (vb (((decide ((l.kind : Int) = 3)) || (decide ((l.kind : Int) = 4))) && (decide (l.pat = (⟨(⟨⟨#[]⟩, (⟨0, ⟨#[]⟩, ⟨#[]⟩⟩ : Term)⟩ : Slot), (⟨⟨#[]⟩, (⟨0, ⟨#[]⟩, ⟨#[]⟩⟩ : Term)⟩ : Slot), (⟨⟨#[]⟩, (⟨0, ⟨#[]⟩, ⟨#[]⟩⟩ : Term)⟩ : Slot)⟩ : Pat))))) rfl (by rw [hg34]; rfl) ?_
      refine AL_say (k := 34) (vb ((decide ((l.kind : Int) = 3)) || (decide ((l.kind : Int) = 4)))) rfl (by rw [hg34]) ?_
      exact nl ⟨rfl,rfl,rfl,rfl,rfl,rfl,rfl,rfl,rfl,rfl,trivial⟩
     ·refine qz ?_
      refine qz ?_
      refine qz ?_
      refine qz ?_
      refine qk ?_
      refine AL_say (k := 39) (vb (((decide ((l.kind : Int) = 3)) || (decide ((l.kind : Int) = 4))) && (decide (l.pat = (⟨(⟨⟨#[]⟩, (⟨0, ⟨#[]⟩, ⟨#[]⟩⟩ : Term)⟩ : Slot), (⟨⟨#[]⟩, (⟨0, ⟨#[]⟩, ⟨#[]⟩⟩ : Term)⟩ : Slot), (⟨⟨#[]⟩, (⟨0, ⟨#[]⟩, ⟨#[]⟩⟩ : Term)⟩ : Slot)⟩ : Pat))))) rfl (by rw [hg34]; rfl) ?_
      refine AL_say (k := 34) (vb ((decide ((l.kind : Int) = 3)) || (decide ((l.kind : Int) = 4)))) rfl (by rw [hg34]) ?_
      exact nl ⟨rfl,rfl,rfl,rfl,rfl,rfl,rfl,rfl,rfl,rfl,trivial⟩
    ·refine qm ?_
     refine AL_jk 4 44 (vb ((((decide ((l.kind : Int) = 3)) || (decide ((l.kind : Int) = 4))) && (decide (l.pat = (⟨(⟨⟨#[]⟩, (⟨0, ⟨#[]⟩, ⟨#[]⟩⟩ : Term)⟩ : Slot), (⟨⟨#[]⟩, (⟨0, ⟨#[]⟩, ⟨#[]⟩⟩ : Term)⟩ : Slot), (⟨⟨#[]⟩, (⟨0, ⟨#[]⟩, ⟨#[]⟩⟩ : Term)⟩ : Slot)⟩ : Pat)))) && (slotR l.a))) [(39,_),(33,_),(0,_),(1,_),(2,_),(26,_),(27,_),(28,_),(29,_),(34,_),(40,_)] ⟨rfl,rfl,rfl,rfl,rfl,rfl,rfl,rfl,rfl,rfl,rfl,trivial⟩ ?_ ?_
     ·refine AL_split 40 _ rfl (fun hg40 => ?_) (fun hg40 => ?_)
      ·refine qg (v := .ip (List.drop 13 (eLit l))) (PO_fieldAddr rfl f68_2 rfl) ?_
       refine qg (v := .agg (eSlot l.a)) (PO_load rfl ty41 rfl rfl) ?_
       refine qg (v := vb (slotR l.a)) (PO_call rfl rfl rfl (slot64_ _ (by first | assumption | exact hok.1 | exact hok.2.1 | exact hok.2.2))) ?_
       refine qk ?_
       refine AL_say (k := 44) (vb ((((decide ((l.kind : Int) = 3)) || (decide ((l.kind : Int) = 4))) && (decide (l.pat = (⟨(⟨⟨#[]⟩, (⟨0, ⟨#[]⟩, ⟨#[]⟩⟩ : Term)⟩ : Slot), (⟨⟨#[]⟩, (⟨0, ⟨#[]⟩, ⟨#[]⟩⟩ : Term)⟩ : Slot), (⟨⟨#[]⟩, (⟨0, ⟨#[]⟩, ⟨#[]⟩⟩ : Term)⟩ : Slot)⟩ : Pat)))) && (slotR l.a))) rfl (by rw [hg40]; rfl) ?_
       refine AL_say (k := 40) (vb (((decide ((l.kind : Int) = 3)) || (decide ((l.kind : Int) = 4))) && (decide (l.pat = (⟨(⟨⟨#[]⟩, (⟨0, ⟨#[]⟩, ⟨#[]⟩⟩ : Term)⟩ : Slot), (⟨⟨#[]⟩, (⟨0, ⟨#[]⟩, ⟨#[]⟩⟩ : Term)⟩ : Slot), (⟨⟨#[]⟩, (⟨0, ⟨#[]⟩, ⟨#[]⟩⟩ : Term)⟩ : Slot)⟩ : Pat))))) rfl (by rw [hg40]) ?_
       exact nl ⟨rfl,rfl,rfl,rfl,rfl,rfl,rfl,rfl,rfl,rfl,rfl,rfl,trivial⟩
      ·refine qz ?_
       refine qz ?_
       refine qz ?_
       refine qk ?_
       refine AL_say (k := 44) (vb ((((decide ((l.kind : Int) = 3)) || (decide ((l.kind : Int) = 4))) && (decide (l.pat = (⟨(⟨⟨#[]⟩, (⟨0, ⟨#[]⟩, ⟨#[]⟩⟩ : Term)⟩ : Slot), (⟨⟨#[]⟩, (⟨0, ⟨#[]⟩, ⟨#[]⟩⟩ : Term)⟩ : Slot), (⟨⟨#[]⟩, (⟨0, ⟨#[]⟩, ⟨#[]⟩⟩ : Term)⟩ : Slot)⟩ : Pat)))) && (slotR l.a))) rfl (by rw [hg40]; rfl) ?_
       refine AL_say (k := 40) (vb (((decide ((l.kind : Int) = 3)) || (decide ((l.kind : Int) = 4))) && (decide (l.pat = (⟨(⟨⟨#[]⟩, (⟨0, ⟨#[]⟩, ⟨#[]⟩⟩ : Term)⟩ : Slot), (⟨⟨#[]⟩, (⟨0, ⟨#[]⟩, ⟨#[]⟩⟩ : Term)⟩ : Slot), (⟨⟨#[]⟩, (⟨0, ⟨#[]⟩, ⟨#[]⟩⟩ : Term)⟩ : Slot)⟩ : Pat))))) rfl (by rw [hg40]) ?_
       exact nl ⟨rfl,rfl,rfl,rfl,rfl,rfl,rfl,rfl,rfl,rfl,rfl,rfl,trivial⟩
     ·refine qm ?_
      refine AL_jk 4 49 (vb (((((decide ((l.kind : Int) = 3)) || (decide ((l.kind : Int) = 4))) && (decide (l.pat = (⟨(⟨⟨#[]⟩, (⟨0, ⟨#[]⟩, ⟨#[]⟩⟩ : Term)⟩ : Slot), (⟨⟨#[]⟩, (⟨0, ⟨#[]⟩, ⟨#[]⟩⟩ : Term)⟩ : Slot), (⟨⟨#[]⟩, (⟨0, ⟨#[]⟩, ⟨#[]⟩⟩ : Term)⟩ : Slot)⟩ : Pat)))) && (slotR l.a)) && (slotR l.b))) [(44,_),(39,_),(33,_),(0,_),(1,_),(2,_),(26,_),(27,_),(28,_),(29,_),(34,_),(40,_),(45,_)] ⟨rfl,rfl,rfl,rfl,rfl,rfl,rfl,rfl,rfl,rfl,rfl,rfl,rfl,trivial⟩ ?_ ?_
      ·refine AL_split 45 _ rfl (fun hg45 => ?_) (fun hg45 => ?_)
       ·refine qg (v := .ip (List.drop 17 (eLit l))) (PO_fieldAddr rfl f68_3 rfl) ?_
        refine qg (v := .agg (eSlot l.b)) (PO_load rfl ty41 rfl rfl) ?_
        refine qg (v := vb (slotR l.b)) (PO_call rfl rfl rfl (slot64_ _ (by first | assumption | exact hok.1 | exact hok.2.1 | exact hok.2.2))) ?_
        refine qk ?_
        refine AL_say (k := 49) (vb (((((decide ((l.kind : Int) = 3)) || (decide ((l.kind : Int) = 4))) && (decide (l.pat = (⟨(⟨⟨#[]⟩, (⟨0, ⟨#[]⟩, ⟨#[]⟩⟩ : Term)⟩ : Slot), (⟨⟨#[]⟩, (⟨0, ⟨#[]⟩, ⟨#[]⟩⟩ : Term)⟩ : Slot), (⟨⟨#[]⟩, (⟨0, ⟨#[]⟩, ⟨#[]⟩⟩ : Term)⟩ : Slot)⟩ : Pat)))) && (slotR l.a)) && (slotR l.b))) rfl (by rw [hg45]; rfl) ?_
        refine AL_say (k := 45) (vb ((((decide ((l.kind : Int) = 3)) || (decide ((l.kind : Int) = 4))) && (decide (l.pat = (⟨(⟨⟨#[]⟩, (⟨0, ⟨#[]⟩, ⟨#[]⟩⟩ : Term)⟩ : Slot), (⟨⟨#[]⟩, (⟨0, ⟨#[]⟩, ⟨#[]⟩⟩ : Term)⟩ : Slot), (⟨⟨#[]⟩, (⟨0, ⟨#[]⟩, ⟨#[]⟩⟩ : Term)⟩ : Slot)⟩ : Pat)))) && (slotR l.a))) rfl (by rw [hg45]) ?_
        exact nl ⟨rfl,rfl,rfl,rfl,rfl,rfl,rfl,rfl,rfl,rfl,rfl,rfl,rfl,rfl,trivial⟩
       ·refine qz ?_
        refine qz ?_
        refine qz ?_
        refine qk ?_
        refine AL_say (k := 49) (vb (((((decide ((l.kind : Int) = 3)) || (decide ((l.kind : Int) = 4))) && (decide (l.pat = (⟨(⟨⟨#[]⟩, (⟨0, ⟨#[]⟩, ⟨#[]⟩⟩ : Term)⟩ : Slot), (⟨⟨#[]⟩, (⟨0, ⟨#[]⟩, ⟨#[]⟩⟩ : Term)⟩ : Slot), (⟨⟨#[]⟩, (⟨0, ⟨#[]⟩, ⟨#[]⟩⟩ : Term)⟩ : Slot)⟩ : Pat)))) && (slotR l.a)) && (slotR l.b))) rfl (by rw [hg45]; rfl) ?_
        refine AL_say (k := 45) (vb ((((decide ((l.kind : Int) = 3)) || (decide ((l.kind : Int) = 4))) && (decide (l.pat = (⟨(⟨⟨#[]⟩, (⟨0, ⟨#[]⟩, ⟨#[]⟩⟩ : Term)⟩ : Slot), (⟨⟨#[]⟩, (⟨0, ⟨#[]⟩, ⟨#[]⟩⟩ : Term)⟩ : Slot), (⟨⟨#[]⟩, (⟨0, ⟨#[]⟩, ⟨#[]⟩⟩ : Term)⟩ : Slot)⟩ : Pat)))) && (slotR l.a))) rfl (by rw [hg45]) ?_
        exact nl ⟨rfl,rfl,rfl,rfl,rfl,rfl,rfl,rfl,rfl,rfl,rfl,rfl,rfl,rfl,trivial⟩
      ·refine qa ?_
       refine AL_keep [(0,_),(1,_),(2,_)] ⟨rfl,rfl,rfl,trivial⟩ ?_
       refine AL_nil ?_
       refine AW_ret ?_
       exact ret_le2 (.inl rfl) rfl (by rw [partR, if_neg (by rw [hc1]; simp)]) (.refl _)
theorem may32_ (r : Rule) (hok : okR r) : PFn PR (.fn (.func 32) [] []) [.agg (eRule r)] (.lit (.bool (mayR r))) := by
 have hbl := hok.2.1
 refine PFn_of Go.Proofs.Tryd.func32 rfl (by rfl) Go.Proofs.Tryd.ntmps32 rfl (by simp) fun h => ?_
 refine AW_seq (AW_region rfl ?_)
 refine qp (v := .ip (eRule r)) (PO_boxA rfl rfl) ?_
 refine qa (v := vb false) ?_
 refine AL_nil (AW_seq (AW_seq (AW_region rfl ?_)))
 refine qp (v := .ip (List.drop 12 (eRule r))) (PO_fieldAddr rfl f46_1 rfl) ?_
 refine qp (v := vL r.body) (PO_load rfl ty44 rfl rfl) ?_
 refine qp (v := vi (r.body.length : Int)) (PO_lenM rfl un44 rfl) ?_
 refine qp (v := vb (decide (((r.body.length : Int) : Int) > 64))) pI ?_
 refine AL_keep [(0,_),(1,_),(2,_),(7,_)] ⟨rfl,rfl,rfl,rfl,trivial⟩ ?_
 refine AL_nil ?_
 refine AW_cond _ rfl (fun hc1 => ?_) (fun hc1 => ?_)
 ·replace hc1 := of_decide_eq_true hc1
  have hw : mayR r = false := by rw [mayR, if_pos hc1]
  refine AW_seq (AW_region rfl ?_)
  refine qa (v := vb false) ?_
  refine AL_nil ?_
  refine AW_ret ?_
  exact ret_le2 (.inl rfl) rfl (by rw [hw]) (.refl _)
 ·replace hc1 := of_decide_eq_false hc1
  have hw : mayR r = bodyR (patR r.head) r.body := by rw [mayR, if_neg hc1]
  refine AW_skip (AW_seq (AW_seq (AW_region rfl ?_)))
  refine qa (v := vi 0) ?_
  refine AL_nil (AW_block ?_)
  refine AW_iter (fun (i : Nat) => [(3, .lit (.int .i64 ((i : Nat) : Int))), (1, .ip (eRule r)), (2, .lit (.bool false))]) (fun (i : Nat) => h) (fun (i : Nat) => i ≤ r.body.length ∧ bodyR (patR r.head) r.body = bodyR (patR r.head) (r.body.drop i)) (fun (i : Nat) => r.body.length - i) (0) ⟨rfl, rfl, rfl, trivial⟩ rfl (⟨by omega, rfl⟩) ?_
  rintro i ⟨hIi, hSi⟩
  refine AW_seq (AW_seq (AW_region rfl ?_))
  refine qm ?_
  refine qp (v := .ip (List.drop 12 (eRule r))) (PO_fieldAddr rfl f46_1 rfl) ?_
  refine qp (v := vL r.body) (PO_load rfl ty44 rfl rfl) ?_
  refine qp (v := vi (r.body.length : Int)) (PO_lenM rfl un44 rfl) ?_
  refine qp (v := vb (decide ((((i : Nat) : Int) : Int) < (r.body.length : Int)))) pI ?_
  refine AL_keep [(3,_),(1,_),(2,_),(12,_)] ⟨rfl,rfl,rfl,rfl,trivial⟩ ?_
  refine AL_nil ?_
  refine AW_cond _ rfl (fun hc0 => ?_) (fun hc0 => ?_)
  ·replace hc0 := of_decide_eq_true hc0
   obtain ⟨x, hrx, hdx, hmx⟩ := drop_at (l := r.body) (i := i) (by omega)
   rw [hdx, bodyR] at hSi
   have hxl := hok.2.2 x hmx
   refine AW_skip (AW_seq (AW_block (AW_seq (AW_region rfl ?_))))
   refine qp (v := .ip (List.drop 12 (eRule r))) (PO_fieldAddr rfl f46_1 rfl) ?_
   refine qp (v := vL r.body) (PO_load rfl ty44 rfl rfl) ?_
   refine qm ?_
   refine qp (v := .ip (eLit x)) (PO_indexAddr rfl un44 ty68 rfl rfl (by first | decide | omega) (mget hrx)) ?_
   refine qp (v := .agg (eLit x)) (PO_load rfl ty68 rfl rfl) ?_
   refine qp (v := vb (partR x)) (PO_call rfl rfl rfl (part44_ _ (by first | assumption))) ?_
   refine qp (v := vb (!(partR x))) (PO_not (b := (partR x)) rfl rfl) ?_
   refine AL_keep [(3,_),(1,_),(2,_),(21,_)] ⟨rfl,rfl,rfl,rfl,trivial⟩ ?_
   refine AL_nil ?_
   refine AW_cond _ rfl (fun hc6 => ?_) (fun hc6 => ?_)
   ·rw [if_pos hc6] at hSi
    refine AW_seq (AW_region rfl ?_)
    refine qa (v := vb false) ?_
    refine AL_nil ?_
    refine AW_ret ?_
    exact ret_le2 (.inl rfl) rfl (by rw [hw, hSi]) (.refl _)
   ·rw [if_neg (by rw [hc6]; simp)] at hSi
    refine AW_skip (AW_region rfl ?_)
    refine qm ?_
    refine qp (v := vn (i + 1)) (PO_inc rfl rfl rfl (by first | omega | simp_all; omega)) ?_
    refine qa ?_
    refine AL_keep [(3,_),(1,_),(2,_)] ⟨rfl,rfl,rfl,trivial⟩ ?_
    refine AL_nil ?_
    exact ⟨i + 1, ⟨by omega, hSi⟩, by omega, ⟨rfl, ⟨rfl, rfl, rfl, trivial⟩, rfl, rfl, rfl⟩⟩
  ·replace hc0 := of_decide_eq_false hc0
   rw [drop_end (l := r.body) (i := i) (by omega), bodyR] at hSi
   refine AW_exit ?_
   refine AW_seq (AW_region rfl ?_)
   refine qp (v := .ip (List.drop 0 (eRule r))) (PO_fieldAddr rfl f46_0 rfl) ?_
   refine qp (v := .agg (ePat r.head)) (PO_load rfl ty43 rfl rfl) ?_
   refine qp (v := vb (patR r.head)) (PO_call rfl rfl rfl (pat45_ _ (by first | assumption | exact hok.1))) ?_
   refine qa ?_
   refine AL_keep [(3,_),(1,_),(2,_)] ⟨rfl,rfl,rfl,trivial⟩ ?_
   refine AL_nil ?_
   refine AW_ret ?_
   exact ret_le2 (.inl rfl) rfl (by rw [hw, hSi]) (.refl _)
def sameL : List Lt → List Lt → Bool
 | [], _ => true
 | _ :: _, [] => true
 | x :: l, y :: m => if x ≠ y then false else sameL l m
def sameR (a b : Rule) : Bool := if (decide (a.head ≠ b.head) || decide ((a.body.length : Int) ≠ (b.body.length : Int))) = true then false else sameL a.body b.body
theorem same20_ (a b : Rule) (ha : okR a) (hb : okR b) : PFn PR (.fn (.func 20) [] []) [.agg (eRule a), .agg (eRule b)] (.lit (.bool (sameR a b))) := by
 have hal := ha.2.1
 have hbl := hb.2.1
 refine PFn_of Go.Proofs.Tryd.func20 rfl (by rfl) Go.Proofs.Tryd.ntmps20 rfl (by simp) fun h => ?_
 refine AW_seq (AW_region rfl ?_)
 refine qp (v := .ip (eRule a)) (PO_boxA rfl rfl) ?_
 refine qp (v := .ip (eRule b)) (PO_boxA rfl rfl) ?_
 refine qa (v := vb false) ?_
 refine AL_nil (AW_seq (AW_seq (AW_region rfl ?_)))
 refine qp (v := .ip (List.drop 0 (eRule a))) (PO_fieldAddr rfl f46_0 rfl) ?_
 refine qp (v := .agg (ePat a.head)) (PO_load rfl ty43 rfl rfl) ?_
 refine qp (v := .ip (List.drop 0 (eRule b))) (PO_fieldAddr rfl f46_0 rfl) ?_
 refine qp (v := .agg (ePat b.head)) (PO_load rfl ty43 rfl rfl) ?_
 refine qp (v := vb (decide (a.head ≠ b.head))) (PO_eqv (PO_aggNe rfl eqm43 eg43 rfl rfl rfl rfl rfl rfl) (ePat_ne _ _)) ?_
 refine qm ?_
 refine AL_jk 8 19 (vb ((decide (a.head ≠ b.head)) || (decide (((a.body.length : Int) : Int) ≠ (b.body.length : Int))))) [(0,_),(1,_),(2,_),(3,_),(4,_),(6,_),(7,_),(8,_),(9,_),(10,_),(11,_)] ⟨rfl,rfl,rfl,rfl,rfl,rfl,rfl,rfl,rfl,rfl,rfl,trivial⟩ ?_ ?_
 ·refine AL_split 11 _ rfl (fun hg11 => ?_) (fun hg11 => ?_)
  ·refine qz ?_
   refine qz ?_
   refine qz ?_
   refine qz ?_
   refine qz ?_
   refine qz ?_
   refine qz ?_
   refine qk ?_
   refine AL_say (k := 19) (vb ((decide (a.head ≠ b.head)) || (decide (((a.body.length : Int) : Int) ≠ (b.body.length : Int))))) rfl (by rw [hg11]; rfl) ?_
   refine AL_say (k := 11) (vb (decide (a.head ≠ b.head))) rfl (by rw [hg11]) ?_
   exact nl ⟨rfl,rfl,rfl,rfl,rfl,rfl,rfl,rfl,rfl,rfl,rfl,rfl,trivial⟩
  ·refine qg (v := .ip (List.drop 12 (eRule a))) (PO_fieldAddr rfl f46_1 rfl) ?_
   refine qg (v := vL a.body) (PO_load rfl ty44 rfl rfl) ?_
   refine qg (v := vi (a.body.length : Int)) (PO_lenM rfl un44 rfl) ?_
   refine qg (v := .ip (List.drop 12 (eRule b))) (PO_fieldAddr rfl f46_1 rfl) ?_
   refine qg (v := vL b.body) (PO_load rfl ty44 rfl rfl) ?_
   refine qg (v := vi (b.body.length : Int)) (PO_lenM rfl un44 rfl) ?_
   refine qg (v := vb (decide (((a.body.length : Int) : Int) ≠ (b.body.length : Int)))) pI ?_
   refine qk ?_
   refine AL_say (k := 19) (vb ((decide (a.head ≠ b.head)) || (decide (((a.body.length : Int) : Int) ≠ (b.body.length : Int))))) rfl (by rw [hg11]; rfl) ?_
   refine AL_say (k := 11) (vb (decide (a.head ≠ b.head))) rfl (by rw [hg11]) ?_
   exact nl ⟨rfl,rfl,rfl,rfl,rfl,rfl,rfl,rfl,rfl,rfl,rfl,rfl,trivial⟩
 ·refine AL_keep [(19,_),(0,_),(1,_),(2,_),(3,_),(4,_)] ⟨rfl,rfl,rfl,rfl,rfl,rfl,trivial⟩ ?_
  refine AL_nil ?_
  refine AW_cond _ rfl (fun hc1 => ?_) (fun hc1 => ?_)
  ·have hw : sameR a b = false := by rw [sameR, if_pos hc1]
   refine AW_seq (AW_region rfl ?_)
   refine qa (v := vb false) ?_
   refine AL_nil ?_
   refine AW_ret ?_
   exact ret_le2 (.inl rfl) rfl (by rw [hw]) (.refl _)
  ·have hw : sameR a b = sameL a.body b.body := by rw [sameR, if_neg (by rw [hc1]; simp)]
   have hd1 := hc1
   simp only [Bool.or_eq_false_iff, decide_eq_false_iff_not] at hd1
   have hlen : a.body.length = b.body.length := by omega
   refine AW_skip (AW_seq (AW_seq (AW_region rfl ?_)))
   refine qa (v := vi 0) ?_
   refine AL_nil (AW_block ?_)
   refine AW_iter (fun (i : Nat) => [(5, .lit (.int .i64 ((i : Nat) : Int))), (2, .ip (eRule a)), (3, .ip (eRule b)), (4, .lit (.bool false))]) (fun (i : Nat) => h) (fun (i : Nat) => i ≤ a.body.length ∧ sameL a.body b.body = sameL (a.body.drop i) (b.body.drop i)) (fun (i : Nat) => a.body.length - i) (0) ⟨rfl, rfl, rfl, rfl, trivial⟩ rfl (⟨by omega, rfl⟩) ?_
   rintro i ⟨hIi, hSi⟩
   refine AW_seq (AW_seq (AW_region rfl ?_))
   refine qm ?_
   refine qp (v := .ip (List.drop 12 (eRule a))) (PO_fieldAddr rfl f46_1 rfl) ?_
   refine qp (v := vL a.body) (PO_load rfl ty44 rfl rfl) ?_
   refine qp (v := vi (a.body.length : Int)) (PO_lenM rfl un44 rfl) ?_
   refine qp (v := vb (decide ((((i : Nat) : Int) : Int) < (a.body.length : Int)))) pI ?_
   refine AL_keep [(5,_),(2,_),(3,_),(4,_),(24,_)] ⟨rfl,rfl,rfl,rfl,rfl,trivial⟩ ?_
   refine AL_nil ?_
   refine AW_cond _ rfl (fun hc0 => ?_) (fun hc0 => ?_)
   ·replace hc0 := of_decide_eq_true hc0
    obtain ⟨x, hrx, hdx, hmx⟩ := drop_at (l := a.body) (i := i) (by omega)
    obtain ⟨y, hry, hdy, hmy⟩ := drop_at (l := b.body) (i := i) (by omega)
    rw [hdx, hdy, sameL] at hSi
    refine AW_skip (AW_seq (AW_block (AW_seq ?_)))
    refine AW_draw 11 [.ip (List.drop 12 (eRule a)), .sl .any 21 (a.body.map eLit), .lit (.int .i64 ((i : Nat) : Int)), .ip (eLit x), .agg (eLit x), .ip (List.drop 12 (eRule b)), .sl .any 21 (b.body.map eLit), .lit (.int .i64 ((i : Nat) : Int)), .ip (eLit y), .agg (eLit y), .lit (.bool (decide (x ≠ y)))] [(5, .lit (.int .i64 ((i : Nat) : Int))), (2, .ip (eRule a)), (3, .ip (eRule b)), (4, .lit (.bool false)), (37, .lit (.bool (decide (x ≠ y))))] rfl hmixed (by kernel_rfl) rfl (by kernel_rfl) ⟨
     ⟨[(2, .ip (eRule a))], ⟨.inr ⟨by kernel_rfl, rfl⟩, trivial⟩, .inl ⟨rfl, PO_fieldAddr rfl f46_1 rfl⟩⟩,
     ⟨[(27, .ip (List.drop 12 (eRule a)))], ⟨.inl ⟨0, by kernel_rfl, rfl, rfl⟩, trivial⟩, .inl ⟨rfl, PO_load rfl ty44 rfl rfl⟩⟩,
     ⟨[(5, .lit (.int .i64 ((i : Nat) : Int)))], ⟨.inr ⟨by kernel_rfl, rfl⟩, trivial⟩, .inl ⟨rfl, PO_move rfl rfl⟩⟩,
     ⟨[(28, .sl .any 21 (a.body.map eLit)), (29, .lit (.int .i64 ((i : Nat) : Int)))], ⟨.inl ⟨1, by kernel_rfl, rfl, rfl⟩, .inl ⟨2, by kernel_rfl, rfl, rfl⟩, trivial⟩, .inl ⟨rfl, PO_indexAddr rfl un44 ty68 rfl rfl (by first | decide | omega) (mget hrx)⟩⟩,
     ⟨[(30, .ip (eLit x))], ⟨.inl ⟨3, by kernel_rfl, rfl, rfl⟩, trivial⟩, .inl ⟨rfl, PO_load rfl ty68 rfl rfl⟩⟩,
     ⟨[(3, .ip (eRule b))], ⟨.inr ⟨by kernel_rfl, rfl⟩, trivial⟩, .inl ⟨rfl, PO_fieldAddr rfl f46_1 rfl⟩⟩,
     ⟨[(32, .ip (List.drop 12 (eRule b)))], ⟨.inl ⟨5, by kernel_rfl, rfl, rfl⟩, trivial⟩, .inl ⟨rfl, PO_load rfl ty44 rfl rfl⟩⟩,
     ⟨[(5, .lit (.int .i64 ((i : Nat) : Int)))], ⟨.inr ⟨by kernel_rfl, rfl⟩, trivial⟩, .inl ⟨rfl, PO_move rfl rfl⟩⟩,
     ⟨[(33, .sl .any 21 (b.body.map eLit)), (34, .lit (.int .i64 ((i : Nat) : Int)))], ⟨.inl ⟨6, by kernel_rfl, rfl, rfl⟩, .inl ⟨7, by kernel_rfl, rfl, rfl⟩, trivial⟩, .inl ⟨rfl, PO_indexAddr rfl un44 ty68 rfl rfl (by first | decide | omega) (mget hry)⟩⟩,
     ⟨[(35, .ip (eLit y))], ⟨.inl ⟨8, by kernel_rfl, rfl, rfl⟩, trivial⟩, .inl ⟨rfl, PO_load rfl ty68 rfl rfl⟩⟩,
     ⟨[(31, .agg (eLit x)), (36, .agg (eLit y))], ⟨.inl ⟨4, by kernel_rfl, rfl, rfl⟩, .inl ⟨9, by kernel_rfl, rfl, rfl⟩, trivial⟩, .inl ⟨rfl, PO_eqv (PO_aggNe rfl eqm68 eg68 rfl rfl rfl rfl rfl rfl) (eLit_ne _ _)⟩⟩,
     trivial⟩ ⟨.inr ⟨by kernel_rfl, rfl⟩, .inr ⟨by kernel_rfl, rfl⟩, .inr ⟨by kernel_rfl, rfl⟩, .inr ⟨by kernel_rfl, rfl⟩, .inl ⟨10, by decide, rfl, rfl⟩, trivial⟩ ?_
    refine AL_nil ?_
    refine AW_cond _ rfl (fun hc6 => ?_) (fun hc6 => ?_)
    ·replace hc6 := of_decide_eq_true hc6
     rw [if_pos hc6] at hSi
     refine AW_seq (AW_region rfl ?_)
     refine qa (v := vb false) ?_
     refine AL_nil ?_
     refine AW_ret ?_
     exact ret_le2 (.inl rfl) rfl (by rw [hw, hSi]) (.refl _)
    ·replace hc6 := of_decide_eq_false hc6
     rw [if_neg hc6] at hSi
     refine AW_skip (AW_region rfl ?_)
     refine qm ?_
     refine qp (v := vn (i + 1)) (PO_inc rfl rfl rfl (by first | omega | simp_all; omega)) ?_
     refine qa ?_
     refine AL_keep [(5,_),(2,_),(3,_),(4,_)] ⟨rfl,rfl,rfl,rfl,trivial⟩ ?_
     refine AL_nil ?_
     exact ⟨i + 1, ⟨by omega, hSi⟩, by omega, ⟨rfl, ⟨rfl, rfl, rfl, rfl, trivial⟩, rfl, rfl, rfl⟩⟩
   ·replace hc0 := of_decide_eq_false hc0
    rw [drop_end (l := a.body) (i := i) (by omega), sameL] at hSi
    refine AW_exit ?_
    refine AW_seq (AW_region rfl ?_)
    refine qa (v := vb true) ?_
    refine AL_nil ?_
    refine AW_ret ?_
    exact ret_le2 (.inl rfl) rfl (by rw [hw, hSi]) (.refl _)
end Go.AM.Tryd
end
section
set_option maxRecDepth 100000
set_option linter.unusedVariables false
set_option linter.unusedSimpArgs false
namespace Go.AM.Tryd
open Go Go.AM Go.AM.D
def slotsR (l : Lt) : List Slot := if (decide (l.kind = 1) || decide (l.kind = 2)) = true then [l.pat.a, l.pat.b, l.pat.c] else [l.a, l.b]
theorem slotsR_len (l : Lt) : 2 ≤ (slotsR l).length ∧ (slotsR l).length ≤ 3 := by unfold slotsR; split <;> simp
theorem slotsR_ok {l : Lt} (h : okL l) : ∀ s ∈ slotsR l, s.var.size ≤ 1048576 := by
 obtain ⟨⟨h1, h2, h3⟩, h4, h5⟩ := h
 intro s hs
 unfold slotsR at hs
 split at hs <;> simp only [List.mem_cons, List.not_mem_nil, or_false] at hs
 ·rcases hs with rfl | rfl | rfl
  ·exact h1.1
  ·exact h2.1
  ·exact h3.1
 ·rcases hs with rfl | rfl
  ·exact h4.1
  ·exact h5.1
theorem slots46_ (l : Lt) : PFn PR (.fn (.func 46) [] []) [.agg (eLit l)] (.sl .any 4 ((slotsR l).map eSlot)) := by
 refine PFn_of Go.Proofs.Tryd.func46 rfl (by rfl) Go.Proofs.Tryd.ntmps46 rfl (by simp) fun h => ?_
 refine AW_seq (AW_region rfl ?_)
 refine qp (v := .ip (eLit l)) (PO_boxA rfl rfl) ?_
 refine qp (v := .sl .nil 4 []) (PO_nil_assign rfl) ?_
 refine AL_nil (AW_seq (AW_seq (AW_region rfl ?_)))
 refine qp (v := .ip (List.drop 0 (eLit l))) (PO_fieldAddr rfl f68_0 rfl) ?_
 refine qp (v := vi l.kind) (PO_load rfl ty66 rfl rfl) ?_
 refine qp (v := vb (decide ((l.kind : Int) = 1))) pI ?_
 refine qm ?_
 refine AL_jk 4 10 (vb ((decide ((l.kind : Int) = 1)) || (decide ((l.kind : Int) = 2)))) [(0,_),(1,_),(2,_),(3,_),(4,_),(5,_),(6,_)] ⟨rfl,rfl,rfl,rfl,rfl,rfl,rfl,trivial⟩ ?_ ?_
 ·refine AL_split 6 _ rfl (fun hg6 => ?_) (fun hg6 => ?_)
  ·refine qz ?_
   refine qz ?_
   refine qz ?_
   refine qk ?_
   refine AL_say (k := 10) (vb ((decide ((l.kind : Int) = 1)) || (decide ((l.kind : Int) = 2)))) rfl (by rw [hg6]; rfl) ?_
   refine AL_say (k := 6) (vb (decide ((l.kind : Int) = 1))) rfl (by rw [hg6]) ?_
   exact nl ⟨rfl,rfl,rfl,rfl,rfl,rfl,rfl,rfl,trivial⟩
  ·refine qg (v := .ip (List.drop 0 (eLit l))) (PO_fieldAddr rfl f68_0 rfl) ?_
   refine qg (v := vi l.kind) (PO_load rfl ty66 rfl rfl) ?_
   refine qg (v := vb (decide ((l.kind : Int) = 2))) pI ?_
   refine qk ?_
   refine AL_say (k := 10) (vb ((decide ((l.kind : Int) = 1)) || (decide ((l.kind : Int) = 2)))) rfl (by rw [hg6]; rfl) ?_
   refine AL_say (k := 6) (vb (decide ((l.kind : Int) = 1))) rfl (by rw [hg6]) ?_
   exact nl ⟨rfl,rfl,rfl,rfl,rfl,rfl,rfl,rfl,trivial⟩
 ·refine AL_keep [(10,_),(0,_),(1,_),(2,_)] ⟨rfl,rfl,rfl,rfl,trivial⟩ ?_
  refine AL_nil ?_
  refine AW_cond _ rfl (fun hc1 => ?_) (fun hc1 => ?_)
  ·refine AW_seq (AW_region rfl ?_)
   refine qp (v := .ip (List.drop 1 (eLit l))) (PO_fieldAddr rfl f68_1 rfl) ?_
   refine qp (v := .ip (List.drop (0 * 4) (List.drop 1 (eLit l)))) (PO_indexAddr_arr (i := 0) rfl un43 ty41 rfl rfl (by decide) (by decide)) ?_
   refine qp (v := .agg (eSlot l.pat.a)) (PO_load rfl ty41 rfl rfl) ?_
   refine qp (v := .ip (List.drop 1 (eLit l))) (PO_fieldAddr rfl f68_1 rfl) ?_
   refine qp (v := .ip (List.drop (1 * 4) (List.drop 1 (eLit l)))) (PO_indexAddr_arr (i := 1) rfl un43 ty41 rfl rfl (by decide) (by decide)) ?_
   refine qp (v := .agg (eSlot l.pat.b)) (PO_load rfl ty41 rfl rfl) ?_
   refine qp (v := .ip (List.drop 1 (eLit l))) (PO_fieldAddr rfl f68_1 rfl) ?_
   refine qp (v := .ip (List.drop (2 * 4) (List.drop 1 (eLit l)))) (PO_indexAddr_arr (i := 2) rfl un43 ty41 rfl rfl (by decide) (by decide)) ?_
   refine qp (v := .agg (eSlot l.pat.c)) (PO_load rfl ty41 rfl rfl) ?_
   refine qp (v := .sl .full 4 ([l.pat.a, l.pat.b, l.pat.c].map eSlot)) (PO_buildSlice (n := 3) (S := 4) (rs := eSlot l.pat.a ++ (eSlot l.pat.b ++ (eSlot l.pat.c ++ []))) rfl un106 ty41 z41 rfl rfl rfl (by decide) rfl (by decide)) ?_
   refine qa ?_
   refine AL_keep [(0,_),(1,_),(2,_)] ⟨rfl,rfl,rfl,trivial⟩ ?_
   refine AL_nil ?_
   refine AW_any (k := 2) rfl ?_
   refine AW_ret ?_
   exact ret_le2 (.inl rfl) rfl (by rw [slotsR, if_pos hc1]) (.refl _)
  ·refine AW_skip (AW_seq (AW_region rfl ?_))
   refine qp (v := .ip (List.drop 13 (eLit l))) (PO_fieldAddr rfl f68_2 rfl) ?_
   refine qp (v := .agg (eSlot l.a)) (PO_load rfl ty41 rfl rfl) ?_
   refine qp (v := .ip (List.drop 17 (eLit l))) (PO_fieldAddr rfl f68_3 rfl) ?_
   refine qp (v := .agg (eSlot l.b)) (PO_load rfl ty41 rfl rfl) ?_
   refine qp (v := .sl .full 4 ([l.a, l.b].map eSlot)) (PO_buildSlice (n := 2) (S := 4) (rs := eSlot l.a ++ (eSlot l.b ++ [])) rfl un106 ty41 z41 rfl rfl rfl (by decide) rfl (by decide)) ?_
   refine qa ?_
   refine AL_keep [(0,_),(1,_),(2,_)] ⟨rfl,rfl,rfl,trivial⟩ ?_
   refine AL_nil ?_
   refine AW_any (k := 2) rfl ?_
   refine AW_ret ?_
   exact ret_le2 (.inl rfl) rfl (by rw [slotsR, if_neg (by rw [hc1]; simp)]) (.refl _)
def allL : List Lt → List Slot → List Slot
 | [], acc => acc
 | x :: b, acc => allL b (acc ++ slotsR x)
def varL : List Slot → List ByteArray → List ByteArray
 | [], acc => acc
 | s :: l, acc => if (decide (s.var ≠ ⟨#[]⟩) && !inF s.var acc) = true then varL l (acc ++ [s.var]) else varL l acc
def allR (r : Rule) : List Slot := allL r.body [r.head.a, r.head.b, r.head.c]
def varsR (r : Rule) : List ByteArray := varL (allR r) []
theorem allL_len : ∀ (b : List Lt) (acc : List Slot), (allL b acc).length ≤ acc.length + 3 * b.length := by
 intro b
 induction b with
 | nil => intro acc; simp [allL]
 | cons x b ih =>
  intro acc
  have h1 := ih (acc ++ slotsR x)
  have h2 := slotsR_len x
  simp only [allL, List.length_append, List.length_cons] at h1 ⊢
  omega
theorem varL_len : ∀ (b : List Slot) (acc : List ByteArray), (varL b acc).length ≤ acc.length + b.length := by
 intro b
 induction b with
 | nil => intro acc; simp [varL]
 | cons x b ih =>
  intro acc
  simp only [varL]
  split
  ·have := ih (acc ++ [x.var]); simp only [List.length_append, List.length_cons, List.length_nil] at this ⊢; omega
  ·have := ih acc; simp only [List.length_cons]; omega
theorem vars33_ (r : Rule) (hok : okR r) : PFn PR (.fn (.func 33) [] []) [.agg (eRule r)] (.sl .any 1 ((varsR r).map eStr)) := by
 have hbl := hok.2.1
 refine PFn_of Go.Proofs.Tryd.func33 rfl (by rfl) Go.Proofs.Tryd.ntmps33 rfl (by simp) fun h => ?_
 refine AW_seq (AW_region rfl ?_)
 refine qp (v := .ip (eRule r)) (PO_boxA rfl rfl) ?_
 refine qp (v := .sl .nil 1 []) (PO_nil_assign rfl) ?_
 refine AL_nil (AW_seq (AW_region rfl ?_))
 refine qp (v := .sl .nil 1 []) (PO_nil_assign rfl) ?_
 refine AL_nil (AW_seq (AW_region rfl ?_))
 refine qp (v := .ip (List.drop 0 (eRule r))) (PO_fieldAddr rfl f46_0 rfl) ?_
 refine qp (v := .ip (List.drop (0 * 4) (List.drop 0 (eRule r)))) (PO_indexAddr_arr (i := 0) rfl un43 ty41 rfl rfl (by decide) (by decide)) ?_
 refine qp (v := .agg (eSlot r.head.a)) (PO_load rfl ty41 rfl rfl) ?_
 refine qp (v := .ip (List.drop 0 (eRule r))) (PO_fieldAddr rfl f46_0 rfl) ?_
 refine qp (v := .ip (List.drop (1 * 4) (List.drop 0 (eRule r)))) (PO_indexAddr_arr (i := 1) rfl un43 ty41 rfl rfl (by decide) (by decide)) ?_
 refine qp (v := .agg (eSlot r.head.b)) (PO_load rfl ty41 rfl rfl) ?_
 refine qp (v := .ip (List.drop 0 (eRule r))) (PO_fieldAddr rfl f46_0 rfl) ?_
 refine qp (v := .ip (List.drop (2 * 4) (List.drop 0 (eRule r)))) (PO_indexAddr_arr (i := 2) rfl un43 ty41 rfl rfl (by decide) (by decide)) ?_
 refine qp (v := .agg (eSlot r.head.c)) (PO_load rfl ty41 rfl rfl) ?_
 refine qp (v := .sl .full 4 ([r.head.a, r.head.b, r.head.c].map eSlot)) (PO_buildSlice (n := 3) (S := 4) (rs := eSlot r.head.a ++ (eSlot r.head.b ++ (eSlot r.head.c ++ []))) rfl un106 ty41 z41 rfl rfl rfl (by decide) rfl (by decide)) ?_
 refine qa ?_
 refine AL_keep [(0,_),(1,_),(2,_),(3,_),(4,_)] ⟨rfl,rfl,rfl,rfl,rfl,trivial⟩ ?_
 refine AL_nil (AW_seq (AW_seq (AW_region rfl ?_)))
 refine qa (v := vi 0) ?_
 refine AL_nil (AW_block ?_)
 refine AW_iter (fun (z_ : Nat × List Slot × Own × Heap) => match z_ with | (i, acc, own, hp) => [(5, .lit (.int .i64 ((i : Nat) : Int))), (4, .sl own 4 (acc.map eSlot)), (1, .ip (eRule r)), (2, .sl .nil 1 []), (3, .sl .nil 1 [])]) (fun (z_ : Nat × List Slot × Own × Heap) => match z_ with | (i, acc, own, hp) => hp) (fun (z_ : Nat × List Slot × Own × Heap) => match z_ with | (i, acc, own, hp) => i ≤ r.body.length ∧ allR r = allL (r.body.drop i) acc ∧ acc.length ≤ 3 + 3 * i ∧ Grow h 4 acc.length own hp) (fun (z_ : Nat × List Slot × Own × Heap) => match z_ with | (i, acc, own, hp) => r.body.length - i) ((0, [r.head.a, r.head.b, r.head.c], .full, h)) ⟨rfl, rfl, rfl, rfl, rfl, trivial⟩ rfl (⟨by omega, rfl, by simp, Grow.full _ _ _⟩) ?_
 rintro ⟨i, acc, own, hp⟩ ⟨hIi, hSi, hA, hG⟩
 refine AW_seq (AW_seq (AW_region rfl ?_))
 refine qm ?_
 refine qp (v := .ip (List.drop 12 (eRule r))) (PO_fieldAddr rfl f46_1 rfl) ?_
 refine qp (v := vL r.body) (PO_load rfl ty44 rfl rfl) ?_
 refine qp (v := vi (r.body.length : Int)) (PO_lenM rfl un44 rfl) ?_
 refine qp (v := vb (decide ((((i : Nat) : Int) : Int) < (r.body.length : Int)))) pI ?_
 refine AL_keep [(5,_),(4,_),(1,_),(2,_),(3,_),(21,_)] ⟨rfl,rfl,rfl,rfl,rfl,rfl,trivial⟩ ?_
 refine AL_nil ?_
 refine AW_cond _ rfl (fun hc4 => ?_) (fun hc4 => ?_)
 ·replace hc4 := of_decide_eq_true hc4
  obtain ⟨x, hrx, hdx, hmx⟩ := drop_at (l := r.body) (i := i) (by omega)
  rw [hdx, allL] at hSi
  have hsl := slotsR_len x
  refine AW_skip (AW_seq (AW_block (AW_region rfl ?_)))
  refine qm ?_
  refine qp (v := .ip (List.drop 12 (eRule r))) (PO_fieldAddr rfl f46_1 rfl) ?_
  refine qp (v := vL r.body) (PO_load rfl ty44 rfl rfl) ?_
  refine qm ?_
  refine qp (v := .ip (eLit x)) (PO_indexAddr rfl un44 ty68 rfl rfl (by first | decide | omega) (mget hrx)) ?_
  refine qp (v := .agg (eLit x)) (PO_load rfl ty68 rfl rfl) ?_
  refine qp (v := .sl .any 4 ((slotsR x).map eSlot)) (PO_call rfl rfl rfl (slots46_ _)) ?_
  refine AL_m rfl rfl rfl (MO_grow (acc := acc) (f := eSlot) rfl un106 un106 ty41 z41 rfl by41 rfl rfl (.inl rfl) (by first | omega | simp) hG (by omega) (by omega)) ?_
  rintro _ h1 ⟨own1, rfl, hG1⟩
  refine qa ?_
  refine AL_keep [(5,_),(4,_),(1,_),(2,_),(3,_)] ⟨rfl,rfl,rfl,rfl,rfl,trivial⟩ ?_
  refine AL_nil (AW_region rfl ?_)
  refine qm ?_
  refine qp (v := vn (i + 1)) (PO_inc rfl rfl rfl (by first | omega | simp_all; omega)) ?_
  refine qa ?_
  refine AL_keep [(5,_),(4,_),(1,_),(2,_),(3,_)] ⟨rfl,rfl,rfl,rfl,rfl,trivial⟩ ?_
  refine AL_nil ?_
  exact ⟨(i + 1, acc ++ slotsR x, own1, h1), ⟨by omega, hSi, by rw [List.length_append]; omega, hG1⟩, by simp only []; omega, ⟨rfl, ⟨rfl, rfl, rfl, rfl, rfl, trivial⟩, rfl, rfl, rfl⟩⟩
 ·replace hc4 := of_decide_eq_false hc4
  rw [drop_end (l := r.body) (i := i) (by omega), allL] at hSi
  refine AW_exit ?_
  refine AW_seq (AW_seq (AW_region rfl ?_))
  refine qa (v := vi 0) ?_
  refine AL_nil (AW_block ?_)
  refine AW_iter (fun (z_ : Nat × List ByteArray × Own × Heap) => match z_ with | (k, out, own2, hp2) => [(6, .lit (.int .i64 ((k : Nat) : Int))), (3, .sl own2 1 (out.map eStr)), (4, .sl own 4 (acc.map eSlot)), (2, .sl .nil 1 [])]) (fun (z_ : Nat × List ByteArray × Own × Heap) => match z_ with | (k, out, own2, hp2) => hp2) (fun (z_ : Nat × List ByteArray × Own × Heap) => match z_ with | (k, out, own2, hp2) => k ≤ acc.length ∧ varsR r = varL (acc.drop k) out ∧ out.length ≤ k ∧ Grow hp 1 out.length own2 hp2) (fun (z_ : Nat × List ByteArray × Own × Heap) => match z_ with | (k, out, own2, hp2) => acc.length - k) ((0, [], .nil, hp)) ⟨rfl, rfl, rfl, rfl, trivial⟩ rfl (⟨by omega, by rw [varsR, hSi]; rfl, by simp, Grow.nil _ _ _⟩) ?_
  rintro ⟨k, out, own2, hp2⟩ ⟨hIk, hSk, hB, hGv⟩
  refine AW_seq (AW_seq (AW_region rfl ?_))
  refine qm ?_
  refine qm ?_
  refine qp (v := vi (acc.length : Int)) (PO_lenM rfl un106 rfl) ?_
  refine qp (v := vb (decide ((((k : Nat) : Int) : Int) < (acc.length : Int)))) pI ?_
  refine AL_keep [(6,_),(3,_),(4,_),(2,_),(35,_)] ⟨rfl,rfl,rfl,rfl,rfl,trivial⟩ ?_
  refine AL_nil ?_
  refine AW_cond _ rfl (fun hc8 => ?_) (fun hc8 => ?_)
  ·replace hc8 := of_decide_eq_true hc8
   obtain ⟨s, hrs, hds, hms⟩ := drop_at (l := acc) (i := k) (by omega)
   rw [hds, varL] at hSk
   refine AW_skip (AW_seq (AW_block (AW_seq (AW_region rfl ?_))))
   refine qm ?_
   refine qm ?_
   refine qp (v := .ip (eSlot s)) (PO_indexAddr rfl un106 ty41 rfl rfl (by first | decide | omega) (mget hrs)) ?_
   refine qp (v := .ip (List.drop 0 (eSlot s))) (PO_fieldAddr rfl f41_0 rfl) ?_
   refine qp (v := vs s.var) (PO_load rfl ty9 rfl rfl) ?_
   refine qp (v := vb (decide (s.var ≠ ⟨#[]⟩))) (PO_str rfl rfl rfl rfl) ?_
   refine qm ?_
   refine AL_jk 9 53 (vb ((decide (s.var ≠ ⟨#[]⟩)) && (!(inF s.var out)))) [(6,_),(3,_),(4,_),(2,_),(38,_),(39,_),(40,_),(41,_),(42,_),(43,_),(44,_)] ⟨rfl,rfl,rfl,rfl,rfl,rfl,rfl,rfl,rfl,rfl,rfl,trivial⟩ ?_ ?_
   ·refine AL_split 44 _ rfl (fun hg44 => ?_) (fun hg44 => ?_)
    ·refine gm ?_
     refine gm ?_
     refine gm ?_
     refine qg (v := .ip (eSlot s)) (PO_indexAddr rfl un106 ty41 rfl rfl (by first | decide | omega) (mget hrs)) ?_
     refine qg (v := .ip (List.drop 0 (eSlot s))) (PO_fieldAddr rfl f41_0 rfl) ?_
     refine qg (v := vs s.var) (PO_load rfl ty9 rfl rfl) ?_
     refine qg (v := vb (inF s.var out)) (PO_call rfl rfl rfl (in34_ _ _ _ (by first | assumption | omega))) ?_
     refine qg (v := vb (!(inF s.var out))) (PO_not (b := (inF s.var out)) rfl rfl) ?_
     refine qk ?_
     refine AL_say (k := 53) (vb ((decide (s.var ≠ ⟨#[]⟩)) && (!(inF s.var out)))) rfl (by rw [hg44]; rfl) ?_
     refine AL_say (k := 44) (vb (decide (s.var ≠ ⟨#[]⟩))) rfl (by rw [hg44]) ?_
     exact nl ⟨rfl,rfl,rfl,rfl,rfl,rfl,rfl,rfl,rfl,rfl,rfl,rfl,trivial⟩
    ·refine qz ?_
     refine qz ?_
     refine qz ?_
     refine qz ?_
     refine qz ?_
     refine qz ?_
     refine qz ?_
     refine qz ?_
     refine qk ?_
     refine AL_say (k := 53) (vb ((decide (s.var ≠ ⟨#[]⟩)) && (!(inF s.var out)))) rfl (by rw [hg44]; rfl) ?_
     refine AL_say (k := 44) (vb (decide (s.var ≠ ⟨#[]⟩))) rfl (by rw [hg44]) ?_
     exact nl ⟨rfl,rfl,rfl,rfl,rfl,rfl,rfl,rfl,rfl,rfl,rfl,rfl,trivial⟩
   ·refine AL_keep [(53,_),(6,_),(3,_),(4,_),(2,_)] ⟨rfl,rfl,rfl,rfl,rfl,trivial⟩ ?_
    refine AL_nil ?_
    refine AW_cond _ rfl (fun hc10 => ?_) (fun hc10 => ?_)
    ·rw [if_pos hc10] at hSk
     refine AW_region rfl ?_
     refine qm ?_
     refine qm ?_
     refine qm ?_
     refine qp (v := .ip (eSlot s)) (PO_indexAddr rfl un106 ty41 rfl rfl (by first | decide | omega) (mget hrs)) ?_
     refine qp (v := .ip (List.drop 0 (eSlot s))) (PO_fieldAddr rfl f41_0 rfl) ?_
     refine qp (v := vs s.var) (PO_load rfl ty9 rfl rfl) ?_
     refine qp (v := .sl .full 1 ([s.var].map eStr)) (PO_buildSlice (n := 1) (S := 1) (rs := [.lit (.string s.var)] ++ []) rfl un90 ty9 z9 rfl rfl rfl (by decide) rfl (by decide)) ?_
     refine AL_m rfl rfl rfl (MO_grow (acc := out) (f := eStr) rfl un90 un90 ty9 z9 rfl by9 rfl rfl (.inl rfl) (by first | omega | simp) hGv (by simp only [List.length_singleton]; omega) (by simp only [List.length_singleton]; omega)) ?_
     rintro _ h2 ⟨own2, rfl, hG2⟩
     refine qa ?_
     refine AL_keep [(6,_),(3,_),(4,_),(2,_)] ⟨rfl,rfl,rfl,rfl,trivial⟩ ?_
     refine AL_nil (AW_region rfl ?_)
     refine qm ?_
     refine qp (v := vn (k + 1)) (PO_inc rfl rfl rfl (by first | omega | simp_all; omega)) ?_
     refine qa ?_
     refine AL_keep [(6,_),(3,_),(4,_),(2,_)] ⟨rfl,rfl,rfl,rfl,trivial⟩ ?_
     refine AL_nil ?_
     exact ⟨(k + 1, out ++ [s.var], _, _), ⟨by omega, hSk, by simp only [List.length_append, List.length_singleton]; omega, hG2⟩, by simp only []; omega, ⟨rfl, ⟨rfl, rfl, rfl, rfl, trivial⟩, rfl, rfl, rfl⟩⟩
    ·rw [if_neg (by rw [hc10]; simp)] at hSk
     refine AW_skip (AW_region rfl ?_)
     refine qm ?_
     refine qp (v := vn (k + 1)) (PO_inc rfl rfl rfl (by first | omega | simp_all; omega)) ?_
     refine qa ?_
     refine AL_keep [(6,_),(3,_),(4,_),(2,_)] ⟨rfl,rfl,rfl,rfl,trivial⟩ ?_
     refine AL_nil ?_
     exact ⟨(k + 1, out, own2, hp2), ⟨by omega, hSk, by omega, hGv⟩, by simp only []; omega, ⟨rfl, ⟨rfl, rfl, rfl, rfl, trivial⟩, rfl, rfl, rfl⟩⟩
  ·replace hc8 := of_decide_eq_false hc8
   rw [drop_end (l := acc) (i := k) (by omega), varL] at hSk
   refine AW_exit ?_
   refine AW_seq (AW_region rfl ?_)
   refine qm ?_
   refine qa ?_
   refine AL_keep [(6,_),(3,_),(4,_),(2,_)] ⟨rfl,rfl,rfl,rfl,trivial⟩ ?_
   refine AL_nil ?_
   refine AW_any (k := 2) rfl ?_
   refine AW_ret ?_
   exact ret_le2 (.inl rfl) rfl (by rw [hSk]) (hG.le.trans hGv.le)
end Go.AM.Tryd
end
section
set_option maxRecDepth 100000
set_option linter.unusedVariables false
set_option linter.unusedSimpArgs false
namespace Go.AM.Tryd
open Go Go.AM Go.AM.D
def patAt (p : Pat) : Nat → Slot
 | 0 => p.a
 | 1 => p.b
 | _ => p.c
def vs3 (p : Pat) : List ByteArray := [p.a.var, p.b.var, p.c.var]
theorem vs3_take {p : Pat} {k : Nat} (h : k < 3) : (vs3 p).take (k + 1) = (vs3 p).take k ++ [(patAt p k).var] := by
 rcases k with _ | _ | _ | k <;> first | rfl | omega
def givenL : List Lt → List ByteArray → List ByteArray
 | [], acc => acc
 | x :: b, acc => if x.kind ≠ 1 then givenL b acc else givenL b (acc ++ vs3 x.pat)
def givenR (r : Rule) : List ByteArray := givenL r.body []
def checkL (given : List ByteArray) : List ByteArray → Int
 | [] => 0
 | v :: l => if (!inF v given) = true then 5 else checkL given l
def ruleQ (r : Rule) : Int := if (!mayR r) = true then 2 else checkL (givenR r) (varsR r)
theorem varsR_len {r : Rule} (h : okR r) : (varsR r).length ≤ 3145731 := by
 have h1 := varL_len (allR r) []
 have h2 := allL_len r.body [r.head.a, r.head.b, r.head.c]
 have h3 := h.2.1
 simp only [List.length_cons, List.length_nil] at h1 h2
 have h4 : (varsR r).length ≤ 0 + (allR r).length := h1
 have h5 : (allR r).length ≤ _ := h2
 omega
theorem rule19_ (r : Rule) (hok : okR r) : PFn PR (.fn (.func 19) [] []) [.agg (eRule r)] (.lit (.int .i64 (ruleQ r))) := by
 have hbl := hok.2.1
 have hvl := varsR_len hok
 refine PFn_of Go.Proofs.Tryd.func19 rfl (by rfl) Go.Proofs.Tryd.ntmps19 rfl (by simp) fun h => ?_
 refine AW_seq (AW_region rfl ?_)
 refine qp (v := .ip (eRule r)) (PO_boxA rfl rfl) ?_
 refine qa (v := vi 0) ?_
 refine AL_nil (AW_seq (AW_seq (AW_region rfl ?_)))
 refine qp (v := .agg (eRule r)) (PO_load rfl ty46 rfl rfl) ?_
 refine qp (v := vb (mayR r)) (PO_call rfl rfl rfl (may32_ _ (by first | assumption))) ?_
 refine qp (v := vb (!(mayR r))) (PO_not (b := (mayR r)) rfl rfl) ?_
 refine AL_keep [(0,_),(1,_),(2,_),(10,_)] ⟨rfl,rfl,rfl,rfl,trivial⟩ ?_
 refine AL_nil ?_
 refine AW_cond _ rfl (fun hc1 => ?_) (fun hc1 => ?_)
 ·have hw : ruleQ r = 2 := by rw [ruleQ, if_pos hc1]
  refine AW_seq (AW_region rfl ?_)
  refine qa (v := vi 2) ?_
  refine AL_nil ?_
  refine AW_ret ?_
  exact ret_le2 (.inl rfl) rfl (by rw [hw]) (.refl _)
 ·have hw : ruleQ r = checkL (givenR r) (varsR r) := by rw [ruleQ, if_neg (by rw [hc1]; simp)]
  refine AW_skip (AW_seq (AW_region rfl ?_))
  refine qp (v := .sl .nil 1 []) (PO_nil_assign rfl) ?_
  refine AL_nil (AW_seq (AW_seq (AW_region rfl ?_)))
  refine qa (v := vi 0) ?_
  refine AL_nil (AW_block ?_)
  refine AW_iter (fun (z_ : Nat × List ByteArray × Own × Heap) => match z_ with | (i, acc, own, hp) => [(4, .lit (.int .i64 ((i : Nat) : Int))), (3, .sl own 1 (acc.map eStr)), (1, .ip (eRule r)), (2, .lit (.int .i64 0))]) (fun (z_ : Nat × List ByteArray × Own × Heap) => match z_ with | (i, acc, own, hp) => hp) (fun (z_ : Nat × List ByteArray × Own × Heap) => match z_ with | (i, acc, own, hp) => i ≤ r.body.length ∧ givenR r = givenL (r.body.drop i) acc ∧ acc.length ≤ 3 * i ∧ Grow h 1 acc.length own hp) (fun (z_ : Nat × List ByteArray × Own × Heap) => match z_ with | (i, acc, own, hp) => r.body.length - i) ((0, [], .nil, h)) ⟨rfl, rfl, rfl, rfl, trivial⟩ rfl (⟨by omega, rfl, by simp, Grow.nil _ _ _⟩) ?_
  rintro ⟨i, acc, own, hp⟩ ⟨hIi, hSi, hA, hG⟩
  refine AW_seq (AW_seq (AW_region rfl ?_))
  refine qm ?_
  refine qp (v := .ip (List.drop 12 (eRule r))) (PO_fieldAddr rfl f46_1 rfl) ?_
  refine qp (v := vL r.body) (PO_load rfl ty44 rfl rfl) ?_
  refine qp (v := vi (r.body.length : Int)) (PO_lenM rfl un44 rfl) ?_
  refine qp (v := vb (decide ((((i : Nat) : Int) : Int) < (r.body.length : Int)))) pI ?_
  refine AL_keep [(4,_),(3,_),(1,_),(2,_),(15,_)] ⟨rfl,rfl,rfl,rfl,rfl,trivial⟩ ?_
  refine AL_nil ?_
  refine AW_cond _ rfl (fun hc5 => ?_) (fun hc5 => ?_)
  ·replace hc5 := of_decide_eq_true hc5
   obtain ⟨x, hrx, hdx, hmx⟩ := drop_at (l := r.body) (i := i) (by omega)
   rw [hdx, givenL] at hSi
   refine AW_skip (AW_seq (AW_block (AW_seq (AW_seq (AW_region rfl ?_)))))
   refine qp (v := .ip (List.drop 12 (eRule r))) (PO_fieldAddr rfl f46_1 rfl) ?_
   refine qp (v := vL r.body) (PO_load rfl ty44 rfl rfl) ?_
   refine qm ?_
   refine qp (v := .ip (eLit x)) (PO_indexAddr rfl un44 ty68 rfl rfl (by first | decide | omega) (mget hrx)) ?_
   refine qp (v := .ip (List.drop 0 (eLit x))) (PO_fieldAddr rfl f68_0 rfl) ?_
   refine qp (v := vi x.kind) (PO_load rfl ty66 rfl rfl) ?_
   refine qp (v := vb (decide ((x.kind : Int) ≠ 1))) pI ?_
   refine AL_keep [(4,_),(3,_),(1,_),(2,_),(24,_)] ⟨rfl,rfl,rfl,rfl,rfl,trivial⟩ ?_
   refine AL_nil ?_
   refine AW_cond _ rfl (fun hc7 => ?_) (fun hc7 => ?_)
   ·replace hc7 := of_decide_eq_true hc7
    rw [if_pos hc7] at hSi
    refine AW_exit ?_
    refine AW_region rfl ?_
    refine qm ?_
    refine qp (v := vn (i + 1)) (PO_inc rfl rfl rfl (by first | omega | simp_all; omega)) ?_
    refine qa ?_
    refine AL_keep [(4,_),(3,_),(1,_),(2,_)] ⟨rfl,rfl,rfl,rfl,trivial⟩ ?_
    refine AL_nil ?_
    exact ⟨(i + 1, acc, own, hp), ⟨by omega, hSi, by omega, hG⟩, by simp only []; omega, ⟨rfl, ⟨rfl, rfl, rfl, rfl, trivial⟩, rfl, rfl, rfl⟩⟩
   ·replace hc7 := of_decide_eq_false hc7
    rw [if_neg hc7] at hSi
    refine AW_skip (AW_seq (AW_region rfl ?_))
    refine qa (v := vi 0) ?_
    refine AL_nil (AW_block ?_)
    refine AW_iter (fun (z_ : Nat × List ByteArray × Own × Heap) => match z_ with | (k, out, own2, hp2) => [(5, .lit (.int .i64 ((k : Nat) : Int))), (3, .sl own2 1 (out.map eStr)), (4, .lit (.int .i64 ((i : Nat) : Int))), (1, .ip (eRule r)), (2, .lit (.int .i64 0))]) (fun (z_ : Nat × List ByteArray × Own × Heap) => match z_ with | (k, out, own2, hp2) => hp2) (fun (z_ : Nat × List ByteArray × Own × Heap) => match z_ with | (k, out, own2, hp2) => k ≤ 3 ∧ out = acc ++ (vs3 x.pat).take k ∧ Grow h 1 out.length own2 hp2) (fun (z_ : Nat × List ByteArray × Own × Heap) => match z_ with | (k, out, own2, hp2) => 3 - k) ((0, acc, own, hp)) ⟨rfl, rfl, rfl, rfl, rfl, trivial⟩ rfl (⟨by omega, by simp, hG⟩) ?_
    rintro ⟨k, out, own2, hp2⟩ ⟨hIk, hO, hGv⟩
    have hol : out.length ≤ 3 * i + 3 := by rw [hO, List.length_append, List.length_take]; omega
    refine AW_seq (AW_seq (AW_region rfl ?_))
    refine qm ?_
    refine qp (v := vb (decide ((((k : Nat) : Int) : Int) < 3))) pI ?_
    refine AL_keep [(5,_),(3,_),(4,_),(1,_),(2,_),(26,_)] ⟨rfl,rfl,rfl,rfl,rfl,rfl,trivial⟩ ?_
    refine AL_nil ?_
    refine AW_cond _ rfl (fun hc9 => ?_) (fun hc9 => ?_)
    ·replace hc9 := of_decide_eq_true hc9
     refine AW_skip (AW_seq (AW_block (AW_region rfl ?_)))
     refine qm ?_
     refine qp (v := .ip (List.drop 12 (eRule r))) (PO_fieldAddr rfl f46_1 rfl) ?_
     refine qp (v := vL r.body) (PO_load rfl ty44 rfl rfl) ?_
     refine qm ?_
     refine qm ?_
     refine qp (v := .ip (eLit x)) (PO_indexAddr rfl un44 ty68 rfl rfl (by first | decide | omega) (mget hrx)) ?_
     refine qp (v := .ip (List.drop 1 (eLit x))) (PO_fieldAddr rfl f68_1 rfl) ?_
     refine qp (v := .ip (List.drop (k * 4) (List.drop 1 (eLit x)))) (PO_indexAddr_arr (i := ((k : Nat) : Int)) rfl un43 ty41 rfl rfl (by omega) (by omega)) ?_
     refine qp (v := .ip (List.drop 0 (List.drop (k * 4) (List.drop 1 (eLit x))))) (PO_fieldAddr rfl f41_0 rfl) ?_
     refine qp (v := vs ((patAt x.pat k).var)) (PO_load rfl ty9 rfl (by rcases k with _ | _ | _ | k <;> first | rfl | omega)) ?_
     refine qp (v := .sl .full 1 ([(patAt x.pat k).var].map eStr)) (PO_buildSlice (n := 1) (S := 1) (rs := [.lit (.string ((patAt x.pat k).var))] ++ []) rfl un90 ty9 z9 rfl rfl rfl (by decide) rfl (by decide)) ?_
     refine AL_m rfl rfl rfl (MO_grow (acc := out) (f := eStr) rfl un90 un90 ty9 z9 rfl by9 rfl rfl (.inl rfl) (by first | omega | simp) hGv (by simp only [List.length_singleton]; omega) (by simp only [List.length_singleton]; omega)) ?_
     rintro _ h1 ⟨own1, rfl, hG1⟩
     refine qa ?_
     refine AL_keep [(5,_),(3,_),(4,_),(1,_),(2,_)] ⟨rfl,rfl,rfl,rfl,rfl,trivial⟩ ?_
     refine AL_nil (AW_region rfl ?_)
     refine qm ?_
     refine qp (v := vn (k + 1)) (PO_inc rfl rfl rfl (by first | omega | simp_all; omega)) ?_
     refine qa ?_
     refine AL_keep [(5,_),(3,_),(4,_),(1,_),(2,_)] ⟨rfl,rfl,rfl,rfl,rfl,trivial⟩ ?_
     refine AL_nil ?_
     exact ⟨(k + 1, out ++ [(patAt x.pat k).var], _, _), ⟨by omega, by rw [hO, vs3_take (by omega), List.append_assoc], hG1⟩, by simp only []; omega, ⟨rfl, ⟨rfl, rfl, rfl, rfl, rfl, trivial⟩, rfl, rfl, rfl⟩⟩
    ·replace hc9 := of_decide_eq_false hc9
     rw [show k = 3 by omega, List.take_of_length_le (by simp [vs3])] at hO
     rw [← hO] at hSi
     refine AW_exit ?_
     refine AW_region rfl ?_
     refine qm ?_
     refine qp (v := vn (i + 1)) (PO_inc rfl rfl rfl (by first | omega | simp_all; omega)) ?_
     refine qa ?_
     refine AL_keep [(5,_),(3,_),(4,_),(1,_),(2,_)] ⟨rfl,rfl,rfl,rfl,rfl,trivial⟩ ?_
     refine AL_nil ?_
     exact ⟨(i + 1, out, own2, hp2), ⟨by omega, hSi, by rw [hO, List.length_append]; simp only [vs3, List.length_cons, List.length_nil]; omega, hGv⟩, by simp only []; omega, ⟨rfl, ⟨rfl, rfl, rfl, rfl, trivial⟩, rfl, rfl, rfl⟩⟩
  ·replace hc5 := of_decide_eq_false hc5
   rw [drop_end (l := r.body) (i := i) (by omega), givenL] at hSi
   rw [hSi] at hw
   refine AW_exit ?_
   refine AW_seq (AW_region rfl ?_)
   refine qp (v := .agg (eRule r)) (PO_load rfl ty46 rfl rfl) ?_
   refine qp (v := .sl .any 1 ((varsR r).map eStr)) (PO_call rfl rfl rfl (vars33_ _ (by first | assumption))) ?_
   refine qa ?_
   refine AL_keep [(4,_),(3,_),(1,_),(2,_),(6,_)] ⟨rfl,rfl,rfl,rfl,rfl,trivial⟩ ?_
   refine AL_nil (AW_seq (AW_seq (AW_region rfl ?_)))
   refine qa (v := vi 0) ?_
   refine AL_nil (AW_block ?_)
   refine AW_iter (fun (q : Nat) => [(7, .lit (.int .i64 ((q : Nat) : Int))), (3, .sl own 1 (acc.map eStr)), (2, .lit (.int .i64 0)), (6, .sl .any 1 ((varsR r).map eStr))]) (fun (q : Nat) => hp) (fun (q : Nat) => q ≤ (varsR r).length ∧ ruleQ r = checkL acc ((varsR r).drop q)) (fun (q : Nat) => (varsR r).length - q) (0) ⟨rfl, rfl, rfl, rfl, trivial⟩ rfl (⟨by omega, by rw [hw]; rfl⟩) ?_
   rintro q ⟨hIq, hSq⟩
   refine AW_seq (AW_seq (AW_region rfl ?_))
   refine qm ?_
   refine qm ?_
   refine qp (v := vi ((varsR r).length : Int)) (PO_lenM rfl un90 rfl) ?_
   refine qp (v := vb (decide ((((q : Nat) : Int) : Int) < ((varsR r).length : Int)))) pI ?_
   refine AL_keep [(7,_),(3,_),(2,_),(6,_),(46,_)] ⟨rfl,rfl,rfl,rfl,rfl,trivial⟩ ?_
   refine AL_nil ?_
   refine AW_cond _ rfl (fun hc4 => ?_) (fun hc4 => ?_)
   ·replace hc4 := of_decide_eq_true hc4
    obtain ⟨v, hrv, hdv, hmv⟩ := drop_at (l := (varsR r)) (i := q) (by omega)
    rw [hdv, checkL] at hSq
    refine AW_skip (AW_seq (AW_block (AW_seq (AW_region rfl ?_))))
    refine qm ?_
    refine qm ?_
    refine qm ?_
    refine qp (v := .ip (eStr v)) (PO_indexAddr rfl un90 ty9 rfl rfl (by first | decide | omega) (mget hrv)) ?_
    refine qp (v := vs v) (PO_load rfl ty9 rfl rfl) ?_
    refine qp (v := vb (inF v acc)) (PO_call rfl rfl rfl (in34_ _ _ _ (by first | assumption | omega))) ?_
    refine qp (v := vb (!(inF v acc))) (PO_not (b := (inF v acc)) rfl rfl) ?_
    refine AL_keep [(7,_),(3,_),(2,_),(6,_),(55,_)] ⟨rfl,rfl,rfl,rfl,rfl,trivial⟩ ?_
    refine AL_nil ?_
    refine AW_cond _ rfl (fun hc16 => ?_) (fun hc16 => ?_)
    ·rw [if_pos hc16] at hSq
     refine AW_seq (AW_region rfl ?_)
     refine qa (v := vi 5) ?_
     refine AL_nil ?_
     refine AW_ret ?_
     exact ret_le2 (.inl rfl) rfl (by rw [hSq]) hG.le
    ·rw [if_neg (by rw [hc16]; simp)] at hSq
     refine AW_skip (AW_region rfl ?_)
     refine qm ?_
     refine qp (v := vn (q + 1)) (PO_inc rfl rfl rfl (by first | omega | simp_all; omega)) ?_
     refine qa ?_
     refine AL_keep [(7,_),(3,_),(2,_),(6,_)] ⟨rfl,rfl,rfl,rfl,trivial⟩ ?_
     refine AL_nil ?_
     exact ⟨q + 1, ⟨by omega, hSq⟩, by omega, ⟨rfl, ⟨rfl, rfl, rfl, rfl, trivial⟩, rfl, rfl, rfl⟩⟩
   ·replace hc4 := of_decide_eq_false hc4
    rw [drop_end (l := (varsR r)) (i := q) (by omega), checkL] at hSq
    refine AW_exit ?_
    refine AW_seq (AW_region rfl ?_)
    refine qa (v := vi 0) ?_
    refine AL_nil ?_
    refine AW_ret ?_
    exact ret_le2 (.inl rfl) rfl (by rw [hSq]) hG.le
def errL : List Rule → Int
 | [] => 0
 | r :: l => if ruleQ r ≠ 0 then ruleQ r else errL l
def notB : List Lt → Bool
 | [] => false
 | x :: b => if (decide (x.kind = 2) && decide (x.pat.b.var ≠ ⟨#[]⟩)) = true then true else notB b
def notL : List Rule → Bool
 | [] => false
 | r :: l => if r.head.b.var ≠ ⟨#[]⟩ then true else if notB r.body = true then true else notL l
def dupIn (r : Rule) : List Rule → Bool
 | [] => false
 | o :: m => if sameR r o = true then true else dupIn r m
def dupL (all : List Rule) : Nat → List Rule → Bool
 | _, [] => false
 | i, r :: l => if dupIn r (all.take i) = true then true else dupL all (i + 1) l
def progR (l : List Rule) : Int := if errL l ≠ 0 then errL l else if (negF l && notL l) = true then 5 else if dupL l 0 l = true then 8 else if (l.length : Int) > 1000 then 9 else 0
theorem errL_step {l : List Rule} : errL l = 0 → progR l = if (negF l && notL l) = true then 5 else if dupL l 0 l = true then 8 else if (l.length : Int) > 1000 then 9 else 0 := by
 intro h; rw [progR, if_neg (by simp [h])]
theorem prog13_ (l : List Rule) (hl : okRs l) : PFn PR (.fn (.func 13) [] []) [.sl .any 13 (l.map eRule)] (.lit (.int .i64 (progR l))) := by
 have hl1 := hl.1
 refine PFn_of Go.Proofs.Tryd.func13 rfl (by rfl) Go.Proofs.Tryd.ntmps13 rfl (by simp) fun h => ?_
 refine AW_seq (AW_region rfl ?_)
 refine qa (v := vi 0) ?_
 refine AL_nil (AW_seq (AW_seq (AW_region rfl ?_)))
 refine qa (v := vi 0) ?_
 refine AL_nil (AW_block ?_)
 refine AW_iter (fun (i : Nat) => [(3, .lit (.int .i64 ((i : Nat) : Int))), (0, .sl .any 13 (l.map eRule)), (2, .lit (.int .i64 0))]) (fun (i : Nat) => h) (fun (i : Nat) => i ≤ l.length ∧ errL l = errL (l.drop i)) (fun (i : Nat) => l.length - i) (0) ⟨rfl, rfl, rfl, trivial⟩ rfl (⟨by omega, rfl⟩) ?_
 rintro i ⟨hIi, hSi⟩
 refine AW_seq (AW_seq (AW_region rfl ?_))
 refine qm ?_
 refine qm ?_
 refine qp (v := vi (l.length : Int)) (PO_lenM rfl un22 rfl) ?_
 refine qp (v := vb (decide ((((i : Nat) : Int) : Int) < (l.length : Int)))) pI ?_
 refine AL_keep [(3,_),(0,_),(2,_),(12,_)] ⟨rfl,rfl,rfl,rfl,trivial⟩ ?_
 refine AL_nil ?_
 refine AW_cond _ rfl (fun hc0 => ?_) (fun hc0 => ?_)
 ·replace hc0 := of_decide_eq_true hc0
  obtain ⟨r, hrr, hdr, hmr⟩ := drop_at (l := l) (i := i) (by omega)
  rw [hdr, errL] at hSi
  have hokr := hl.2 r hmr
  refine AW_skip (AW_seq (AW_block (AW_seq (AW_region rfl ?_))))
  refine qm ?_
  refine qm ?_
  refine qp (v := .ip (eRule r)) (PO_indexAddr rfl un22 ty46 rfl rfl (by first | decide | omega) (mget hrr)) ?_
  refine qp (v := .agg (eRule r)) (PO_load rfl ty46 rfl rfl) ?_
  refine qp (v := vi (ruleQ r)) (PO_call rfl rfl rfl (rule19_ _ (by first | assumption))) ?_
  refine qa ?_
  refine AL_keep [(3,_),(0,_),(2,_),(4,_)] ⟨rfl,rfl,rfl,rfl,trivial⟩ ?_
  refine AL_nil (AW_seq (AW_region rfl ?_))
  refine qm ?_
  refine qp (v := vb (decide (((ruleQ r) : Int) ≠ 0))) pI ?_
  refine AL_keep [(3,_),(0,_),(2,_),(4,_),(21,_)] ⟨rfl,rfl,rfl,rfl,rfl,trivial⟩ ?_
  refine AL_nil ?_
  refine AW_cond _ rfl (fun hc5 => ?_) (fun hc5 => ?_)
  ·replace hc5 := of_decide_eq_true hc5
   rw [if_pos hc5] at hSi
   have hw1 : progR l = ruleQ r := by rw [progR, hSi, if_pos hc5]
   refine AW_seq (AW_region rfl ?_)
   refine qm ?_
   refine qa ?_
   refine AL_keep [(3,_),(0,_),(2,_),(4,_)] ⟨rfl,rfl,rfl,rfl,trivial⟩ ?_
   refine AL_nil ?_
   refine AW_ret ?_
   exact ret_le2 (.inl rfl) rfl (by rw [hw1]) (.refl _)
  ·replace hc5 := of_decide_eq_false hc5
   rw [if_neg hc5] at hSi
   refine AW_skip (AW_region rfl ?_)
   refine qm ?_
   refine qp (v := vn (i + 1)) (PO_inc rfl rfl rfl (by first | omega | simp_all; omega)) ?_
   refine qa ?_
   refine AL_keep [(3,_),(0,_),(2,_),(4,_)] ⟨rfl,rfl,rfl,rfl,trivial⟩ ?_
   refine AL_nil ?_
   exact ⟨i + 1, ⟨by omega, hSi⟩, by omega, ⟨rfl, ⟨rfl, rfl, rfl, trivial⟩, rfl, rfl, rfl⟩⟩
 ·replace hc0 := of_decide_eq_false hc0
  rw [drop_end (l := l) (i := i) (by omega), errL] at hSi
  have hw := errL_step hSi
  refine AW_exit ?_
  refine AW_join (α := Unit) (fun _ => [(0, .sl .any 13 (l.map eRule)), (2, .lit (.int .i64 0))]) (fun _ => h) (fun _ => progR l = if dupL l 0 l = true then 8 else if (l.length : Int) > 1000 then 9 else 0) ?_ ?_
  ·refine AW_seq (AW_region rfl ?_)
   refine qm ?_
   refine qp (v := vb (negF l)) (PO_call rfl rfl rfl (neg17_ _ (by assumption))) ?_
   refine AL_keep [(3,_),(0,_),(2,_),(24,_)] ⟨rfl,rfl,rfl,rfl,trivial⟩ ?_
   refine AL_nil ?_
   refine AW_cond _ rfl (fun hc7 => ?_) (fun hc7 => ?_)
   ·refine AW_seq (AW_region rfl ?_)
    refine qa (v := vi 0) ?_
    refine AL_nil (AW_block ?_)
    refine AW_iter (fun (j : Nat) => [(5, .lit (.int .i64 ((j : Nat) : Int))), (0, .sl .any 13 (l.map eRule)), (2, .lit (.int .i64 0))]) (fun (j : Nat) => h) (fun (j : Nat) => j ≤ l.length ∧ notL l = notL (l.drop j)) (fun (j : Nat) => l.length - j) (0) ⟨rfl, rfl, rfl, trivial⟩ rfl (⟨by omega, rfl⟩) ?_
    rintro j ⟨hIj, hSj⟩
    refine AW_seq (AW_seq (AW_region rfl ?_))
    refine qm ?_
    refine qm ?_
    refine qp (v := vi (l.length : Int)) (PO_lenM rfl un22 rfl) ?_
    refine qp (v := vb (decide ((((j : Nat) : Int) : Int) < (l.length : Int)))) pI ?_
    refine AL_keep [(5,_),(0,_),(2,_),(28,_)] ⟨rfl,rfl,rfl,rfl,trivial⟩ ?_
    refine AL_nil ?_
    refine AW_cond _ rfl (fun hc2 => ?_) (fun hc2 => ?_)
    ·replace hc2 := of_decide_eq_true hc2
     obtain ⟨r, hrr, hdr, hmr⟩ := drop_at (l := l) (i := j) (by omega)
     rw [hdr, notL] at hSj
     have hbl := (hl.2 r hmr).2.1
     refine AW_skip (AW_seq (AW_block (AW_seq (AW_seq (AW_region rfl ?_)))))
     refine qm ?_
     refine qm ?_
     refine qp (v := .ip (eRule r)) (PO_indexAddr rfl un22 ty46 rfl rfl (by first | decide | omega) (mget hrr)) ?_
     refine qp (v := .ip (List.drop 0 (eRule r))) (PO_fieldAddr rfl f46_0 rfl) ?_
     refine qp (v := .ip (List.drop (1 * 4) (List.drop 0 (eRule r)))) (PO_indexAddr_arr (i := 1) rfl un43 ty41 rfl rfl (by decide) (by decide)) ?_
     refine qp (v := .ip (List.drop 0 (List.drop (1 * 4) (List.drop 0 (eRule r))))) (PO_fieldAddr rfl f41_0 rfl) ?_
     refine qp (v := vs r.head.b.var) (PO_load rfl ty9 rfl rfl) ?_
     refine qp (v := vb (decide (r.head.b.var ≠ ⟨#[]⟩))) (PO_str rfl rfl rfl rfl) ?_
     refine AL_keep [(5,_),(0,_),(2,_),(38,_)] ⟨rfl,rfl,rfl,rfl,trivial⟩ ?_
     refine AL_nil ?_
     refine AW_cond _ rfl (fun hc11 => ?_) (fun hc11 => ?_)
     ·replace hc11 := of_decide_eq_true hc11
      rw [if_pos hc11] at hSj
      rw [hc7, hSj, if_pos (by rfl)] at hw
      refine AW_seq (AW_region rfl ?_)
      refine qa (v := vi 5) ?_
      refine AL_nil ?_
      refine AW_ret ?_
      exact ret_le2 (.inl rfl) rfl (by rw [hw]) (.refl _)
     ·replace hc11 := of_decide_eq_false hc11
      rw [if_neg hc11] at hSj
      refine AW_skip (AW_seq (AW_region rfl ?_))
      refine qa (v := vi 0) ?_
      refine AL_nil (AW_block ?_)
      refine AW_iter (fun (k : Nat) => [(6, .lit (.int .i64 ((k : Nat) : Int))), (5, .lit (.int .i64 ((j : Nat) : Int))), (0, .sl .any 13 (l.map eRule)), (2, .lit (.int .i64 0))]) (fun (k : Nat) => h) (fun (k : Nat) => k ≤ r.body.length ∧ notB r.body = notB (r.body.drop k)) (fun (k : Nat) => r.body.length - k) (0) ⟨rfl, rfl, rfl, rfl, trivial⟩ rfl (⟨by omega, rfl⟩) ?_
      rintro k ⟨hIk, hSk⟩
      refine AW_seq (AW_seq (AW_region rfl ?_))
      refine qm ?_
      refine qm ?_
      refine qm ?_
      refine qp (v := .ip (eRule r)) (PO_indexAddr rfl un22 ty46 rfl rfl (by first | decide | omega) (mget hrr)) ?_
      refine qp (v := .ip (List.drop 12 (eRule r))) (PO_fieldAddr rfl f46_1 rfl) ?_
      refine qp (v := vL r.body) (PO_load rfl ty44 rfl rfl) ?_
      refine qp (v := vi (r.body.length : Int)) (PO_lenM rfl un44 rfl) ?_
      refine qp (v := vb (decide ((((k : Nat) : Int) : Int) < (r.body.length : Int)))) pI ?_
      refine AL_keep [(6,_),(5,_),(0,_),(2,_),(46,_)] ⟨rfl,rfl,rfl,rfl,rfl,trivial⟩ ?_
      refine AL_nil ?_
      refine AW_cond _ rfl (fun hc4 => ?_) (fun hc4 => ?_)
      ·replace hc4 := of_decide_eq_true hc4
       obtain ⟨x, hrx, hdx, hmx⟩ := drop_at (l := r.body) (i := k) (by omega)
       rw [hdx, notB] at hSk
       refine AW_skip (AW_seq (AW_block (AW_seq (AW_region rfl ?_))))
       refine qm ?_
       refine qm ?_
       refine qp (v := .ip (eRule r)) (PO_indexAddr rfl un22 ty46 rfl rfl (by first | decide | omega) (mget hrr)) ?_
       refine qp (v := .ip (List.drop 12 (eRule r))) (PO_fieldAddr rfl f46_1 rfl) ?_
       refine qp (v := vL r.body) (PO_load rfl ty44 rfl rfl) ?_
       refine qm ?_
       refine qp (v := .ip (eLit x)) (PO_indexAddr rfl un44 ty68 rfl rfl (by first | decide | omega) (mget hrx)) ?_
       refine qp (v := .ip (List.drop 0 (eLit x))) (PO_fieldAddr rfl f68_0 rfl) ?_
       refine qp (v := vi x.kind) (PO_load rfl ty66 rfl rfl) ?_
       refine qp (v := vb (decide ((x.kind : Int) = 2))) pI ?_
       refine qm ?_
       refine AL_jk 13 72 (vb ((decide ((x.kind : Int) = 2)) && (decide (x.pat.b.var ≠ ⟨#[]⟩)))) [(6,_),(5,_),(0,_),(2,_),(49,_),(50,_),(51,_),(52,_),(53,_),(54,_),(55,_),(56,_),(57,_),(58,_),(59,_)] ⟨rfl,rfl,rfl,rfl,rfl,rfl,rfl,rfl,rfl,rfl,rfl,rfl,rfl,rfl,rfl,trivial⟩ ?_ ?_
       ·refine AL_split 59 _ rfl (fun hg59 => ?_) (fun hg59 => ?_)
        ·refine gm ?_
         refine gm ?_
         refine qg (v := .ip (eRule r)) (PO_indexAddr rfl un22 ty46 rfl rfl (by first | decide | omega) (mget hrr)) ?_
         refine qg (v := .ip (List.drop 12 (eRule r))) (PO_fieldAddr rfl f46_1 rfl) ?_
         refine qg (v := vL r.body) (PO_load rfl ty44 rfl rfl) ?_
         refine gm ?_
         refine qg (v := .ip (eLit x)) (PO_indexAddr rfl un44 ty68 rfl rfl (by first | decide | omega) (mget hrx)) ?_
         refine qg (v := .ip (List.drop 1 (eLit x))) (PO_fieldAddr rfl f68_1 rfl) ?_
         refine qg (v := .ip (List.drop (1 * 4) (List.drop 1 (eLit x)))) (PO_indexAddr_arr (i := 1) rfl un43 ty41 rfl rfl (by decide) (by decide)) ?_
         refine qg (v := .ip (List.drop 0 (List.drop (1 * 4) (List.drop 1 (eLit x))))) (PO_fieldAddr rfl f41_0 rfl) ?_
         refine qg (v := vs x.pat.b.var) (PO_load rfl ty9 rfl rfl) ?_
         refine qg (v := vb (decide (x.pat.b.var ≠ ⟨#[]⟩))) (PO_str rfl rfl rfl rfl) ?_
         refine qk ?_
         refine AL_say (k := 72) (vb ((decide ((x.kind : Int) = 2)) && (decide (x.pat.b.var ≠ ⟨#[]⟩)))) rfl (by rw [hg59]; rfl) ?_
         refine AL_say (k := 59) (vb (decide ((x.kind : Int) = 2))) rfl (by rw [hg59]) ?_
         exact nl ⟨rfl,rfl,rfl,rfl,rfl,rfl,rfl,rfl,rfl,rfl,rfl,rfl,rfl,rfl,rfl,rfl,trivial⟩
        ·refine qz ?_
         refine qz ?_
         refine qz ?_
         refine qz ?_
         refine qz ?_
         refine qz ?_
         refine qz ?_
         refine qz ?_
         refine qz ?_
         refine qz ?_
         refine qz ?_
         refine qz ?_
         refine qk ?_
         refine AL_say (k := 72) (vb ((decide ((x.kind : Int) = 2)) && (decide (x.pat.b.var ≠ ⟨#[]⟩)))) rfl (by rw [hg59]; rfl) ?_
         refine AL_say (k := 59) (vb (decide ((x.kind : Int) = 2))) rfl (by rw [hg59]) ?_
         exact nl ⟨rfl,rfl,rfl,rfl,rfl,rfl,rfl,rfl,rfl,rfl,rfl,rfl,rfl,rfl,rfl,rfl,trivial⟩
       ·refine AL_keep [(72,_),(6,_),(5,_),(0,_),(2,_)] ⟨rfl,rfl,rfl,rfl,rfl,trivial⟩ ?_
        refine AL_nil ?_
        refine AW_cond _ rfl (fun hc16 => ?_) (fun hc16 => ?_)
        ·rw [if_pos hc16] at hSk
         rw [if_pos hSk] at hSj
         rw [hc7, hSj, if_pos (by rfl)] at hw
         refine AW_seq (AW_region rfl ?_)
         refine qa (v := vi 5) ?_
         refine AL_nil ?_
         refine AW_ret ?_
         exact ret_le2 (.inl rfl) rfl (by rw [hw]) (.refl _)
        ·rw [if_neg (by rw [hc16]; simp)] at hSk
         refine AW_skip (AW_region rfl ?_)
         refine qm ?_
         refine qp (v := vn (k + 1)) (PO_inc rfl rfl rfl (by first | omega | simp_all; omega)) ?_
         refine qa ?_
         refine AL_keep [(6,_),(5,_),(0,_),(2,_)] ⟨rfl,rfl,rfl,rfl,trivial⟩ ?_
         refine AL_nil ?_
         exact ⟨k + 1, ⟨by omega, hSk⟩, by omega, ⟨rfl, ⟨rfl, rfl, rfl, rfl, trivial⟩, rfl, rfl, rfl⟩⟩
      ·replace hc4 := of_decide_eq_false hc4
       rw [drop_end (l := r.body) (i := k) (by omega), notB] at hSk
       rw [hSk, if_neg (by simp)] at hSj
       refine AW_exit ?_
       refine AW_region rfl ?_
       refine qm ?_
       refine qp (v := vn (j + 1)) (PO_inc rfl rfl rfl (by first | omega | simp_all; omega)) ?_
       refine qa ?_
       refine AL_keep [(6,_),(5,_),(0,_),(2,_)] ⟨rfl,rfl,rfl,rfl,trivial⟩ ?_
       refine AL_nil ?_
       exact ⟨j + 1, ⟨by omega, hSj⟩, by omega, ⟨rfl, ⟨rfl, rfl, rfl, trivial⟩, rfl, rfl, rfl⟩⟩
    ·replace hc2 := of_decide_eq_false hc2
     rw [drop_end (l := l) (i := j) (by omega), notL] at hSj
     have hw2 : progR l = if dupL l 0 l = true then 8 else if (l.length : Int) > 1000 then 9 else 0 := by rw [hw, if_neg (by rw [hc7, hSj]; simp)]
     refine AW_exit ?_
     exact ⟨(), hw2, ⟨rfl, ⟨rfl, rfl, trivial⟩, rfl, rfl, rfl⟩⟩
   ·have hw2 : progR l = if dupL l 0 l = true then 8 else if (l.length : Int) > 1000 then 9 else 0 := by rw [hw, if_neg (by rw [hc7]; simp)]
    refine AW_skip ?_
    exact ⟨(), hw2, ⟨rfl, ⟨rfl, rfl, trivial⟩, rfl, rfl, rfl⟩⟩
  ·rintro _ hw2
   refine AW_seq (AW_seq (AW_region rfl ?_))
   refine qa (v := vi 0) ?_
   refine AL_nil (AW_block ?_)
   refine AW_iter (fun (m : Nat) => [(7, .lit (.int .i64 ((m : Nat) : Int))), (0, .sl .any 13 (l.map eRule)), (2, .lit (.int .i64 0))]) (fun (m : Nat) => h) (fun (m : Nat) => m ≤ l.length ∧ dupL l 0 l = dupL l m (l.drop m)) (fun (m : Nat) => l.length - m) (0) ⟨rfl, rfl, rfl, trivial⟩ rfl (⟨by omega, rfl⟩) ?_
   rintro m ⟨hIm, hSm⟩
   refine AW_seq (AW_seq (AW_region rfl ?_))
   refine qm ?_
   refine qm ?_
   refine qp (v := vi (l.length : Int)) (PO_lenM rfl un22 rfl) ?_
   refine qp (v := vb (decide ((((m : Nat) : Int) : Int) < (l.length : Int)))) pI ?_
   refine AL_keep [(7,_),(0,_),(2,_),(76,_)] ⟨rfl,rfl,rfl,rfl,trivial⟩ ?_
   refine AL_nil ?_
   refine AW_cond _ rfl (fun hc6 => ?_) (fun hc6 => ?_)
   ·replace hc6 := of_decide_eq_true hc6
    obtain ⟨r, hrr, hdr, hmr⟩ := drop_at (l := l) (i := m) (by omega)
    rw [hdr, dupL] at hSm
    have hokr := hl.2 r hmr
    refine AW_skip (AW_seq (AW_block (AW_seq (AW_region rfl ?_))))
    refine qa (v := vi 0) ?_
    refine AL_nil (AW_block ?_)
    refine AW_iter (fun (p : Nat) => [(8, .lit (.int .i64 ((p : Nat) : Int))), (7, .lit (.int .i64 ((m : Nat) : Int))), (0, .sl .any 13 (l.map eRule)), (2, .lit (.int .i64 0))]) (fun (p : Nat) => h) (fun (p : Nat) => p ≤ (l.take m).length ∧ dupIn r (l.take m) = dupIn r ((l.take m).drop p)) (fun (p : Nat) => (l.take m).length - p) (0) ⟨rfl, rfl, rfl, rfl, trivial⟩ rfl (⟨by omega, rfl⟩) ?_
    rintro p ⟨hIp, hSp⟩
    have htk : (l.take m).length = m := by rw [List.length_take]; omega
    refine AW_seq (AW_seq (AW_region rfl ?_))
    refine qm ?_
    refine qm ?_
    refine qp (v := vb (decide ((((p : Nat) : Int) : Int) < ((m : Nat) : Int)))) pI ?_
    refine AL_keep [(8,_),(7,_),(0,_),(2,_),(81,_)] ⟨rfl,rfl,rfl,rfl,rfl,trivial⟩ ?_
    refine AL_nil ?_
    refine AW_cond _ rfl (fun hc8 => ?_) (fun hc8 => ?_)
    ·replace hc8 := of_decide_eq_true hc8
     obtain ⟨y, hry, hdy, hmy⟩ := drop_at (l := (l.take m)) (i := p) (by omega)
     rw [hdy, dupIn] at hSp
     have hlty : l[p]? = some y := by rw [List.getElem?_take, if_pos (by omega)] at hry; exact hry
     have hoky := hl.2 y (List.mem_of_getElem? hlty)
     refine AW_skip (AW_seq (AW_block (AW_seq ?_)))
     refine AW_draw 9 [.sl .any 13 (l.map eRule), .lit (.int .i64 ((m : Nat) : Int)), .ip (eRule r), .agg (eRule r), .sl .any 13 (l.map eRule), .lit (.int .i64 ((p : Nat) : Int)), .ip (eRule y), .agg (eRule y), .lit (.bool (sameR r y))] [(8, .lit (.int .i64 ((p : Nat) : Int))), (7, .lit (.int .i64 ((m : Nat) : Int))), (0, .sl .any 13 (l.map eRule)), (2, .lit (.int .i64 0)), (92, .lit (.bool (sameR r y)))] rfl hmixed (by kernel_rfl) rfl (by kernel_rfl) ⟨
      ⟨[(0, .sl .any 13 (l.map eRule))], ⟨.inr ⟨by kernel_rfl, rfl⟩, trivial⟩, .inl ⟨rfl, PO_move rfl rfl⟩⟩,
      ⟨[(7, .lit (.int .i64 ((m : Nat) : Int)))], ⟨.inr ⟨by kernel_rfl, rfl⟩, trivial⟩, .inl ⟨rfl, PO_move rfl rfl⟩⟩,
      ⟨[(84, .sl .any 13 (l.map eRule)), (85, .lit (.int .i64 ((m : Nat) : Int)))], ⟨.inl ⟨0, by kernel_rfl, rfl, rfl⟩, .inl ⟨1, by kernel_rfl, rfl, rfl⟩, trivial⟩, .inl ⟨rfl, PO_indexAddr rfl un22 ty46 rfl rfl (by first | decide | omega) (mget hrr)⟩⟩,
      ⟨[(86, .ip (eRule r))], ⟨.inl ⟨2, by kernel_rfl, rfl, rfl⟩, trivial⟩, .inl ⟨rfl, PO_load rfl ty46 rfl rfl⟩⟩,
      ⟨[(0, .sl .any 13 (l.map eRule))], ⟨.inr ⟨by kernel_rfl, rfl⟩, trivial⟩, .inl ⟨rfl, PO_move rfl rfl⟩⟩,
      ⟨[(8, .lit (.int .i64 ((p : Nat) : Int)))], ⟨.inr ⟨by kernel_rfl, rfl⟩, trivial⟩, .inl ⟨rfl, PO_move rfl rfl⟩⟩,
      ⟨[(88, .sl .any 13 (l.map eRule)), (89, .lit (.int .i64 ((p : Nat) : Int)))], ⟨.inl ⟨4, by kernel_rfl, rfl, rfl⟩, .inl ⟨5, by kernel_rfl, rfl, rfl⟩, trivial⟩, .inl ⟨rfl, PO_indexAddr rfl un22 ty46 rfl rfl (by first | decide | omega) (mget hlty)⟩⟩,
      ⟨[(90, .ip (eRule y))], ⟨.inl ⟨6, by kernel_rfl, rfl, rfl⟩, trivial⟩, .inl ⟨rfl, PO_load rfl ty46 rfl rfl⟩⟩,
      ⟨[(87, .agg (eRule r)), (91, .agg (eRule y))], ⟨.inl ⟨3, by kernel_rfl, rfl, rfl⟩, .inl ⟨7, by kernel_rfl, rfl, rfl⟩, trivial⟩, .inl ⟨rfl, PO_call rfl rfl rfl (same20_ _ _ (by assumption) (by assumption))⟩⟩,
      trivial⟩ ⟨.inr ⟨by kernel_rfl, rfl⟩, .inr ⟨by kernel_rfl, rfl⟩, .inr ⟨by kernel_rfl, rfl⟩, .inr ⟨by kernel_rfl, rfl⟩, .inl ⟨8, by decide, rfl, rfl⟩, trivial⟩ ?_
     refine AL_nil ?_
     refine AW_cond _ rfl (fun hc24 => ?_) (fun hc24 => ?_)
     ·rw [if_pos hc24] at hSp
      rw [if_pos hSp] at hSm
      rw [hSm, if_pos rfl] at hw2
      refine AW_seq (AW_region rfl ?_)
      refine qa (v := vi 8) ?_
      refine AL_nil ?_
      refine AW_ret ?_
      exact ret_le2 (.inl rfl) rfl (by rw [hw2]) (.refl _)
     ·rw [if_neg (by rw [hc24]; simp)] at hSp
      refine AW_skip (AW_region rfl ?_)
      refine qm ?_
      refine qp (v := vn (p + 1)) (PO_inc rfl rfl rfl (by first | omega | simp_all; omega)) ?_
      refine qa ?_
      refine AL_keep [(8,_),(7,_),(0,_),(2,_)] ⟨rfl,rfl,rfl,rfl,trivial⟩ ?_
      refine AL_nil ?_
      exact ⟨p + 1, ⟨by omega, hSp⟩, by omega, ⟨rfl, ⟨rfl, rfl, rfl, rfl, trivial⟩, rfl, rfl, rfl⟩⟩
    ·replace hc8 := of_decide_eq_false hc8
     rw [drop_end (l := (l.take m)) (i := p) (by omega), dupIn] at hSp
     rw [hSp, if_neg (by simp)] at hSm
     refine AW_exit ?_
     refine AW_region rfl ?_
     refine qm ?_
     refine qp (v := vn (m + 1)) (PO_inc rfl rfl rfl (by first | omega | simp_all; omega)) ?_
     refine qa ?_
     refine AL_keep [(8,_),(7,_),(0,_),(2,_)] ⟨rfl,rfl,rfl,rfl,trivial⟩ ?_
     refine AL_nil ?_
     exact ⟨m + 1, ⟨by omega, hSm⟩, by omega, ⟨rfl, ⟨rfl, rfl, rfl, trivial⟩, rfl, rfl, rfl⟩⟩
   ·replace hc6 := of_decide_eq_false hc6
    rw [drop_end (l := l) (i := m) (by omega), dupL] at hSm
    rw [hSm, if_neg (by simp)] at hw2
    refine AW_exit ?_
    refine AW_seq (AW_seq (AW_region rfl ?_))
    refine qm ?_
    refine qp (v := vi (l.length : Int)) (PO_lenM rfl un22 rfl) ?_
    refine qp (v := vb (decide (((l.length : Int) : Int) > 1000))) pI ?_
    refine AL_keep [(7,_),(0,_),(2,_),(95,_)] ⟨rfl,rfl,rfl,rfl,trivial⟩ ?_
    refine AL_nil ?_
    refine AW_cond _ rfl (fun hc26 => ?_) (fun hc26 => ?_)
    ·replace hc26 := of_decide_eq_true hc26
     rw [if_pos hc26] at hw2
     refine AW_seq (AW_region rfl ?_)
     refine qa (v := vi 9) ?_
     refine AL_nil ?_
     refine AW_ret ?_
     exact ret_le2 (.inl rfl) rfl (by rw [hw2]) (.refl _)
    ·replace hc26 := of_decide_eq_false hc26
     rw [if_neg hc26] at hw2
     refine AW_skip (AW_seq (AW_region rfl ?_))
     refine qa (v := vi 0) ?_
     refine AL_nil ?_
     refine AW_ret ?_
     exact ret_le2 (.inl rfl) rfl (by rw [hw2]) (.refl _)
end Go.AM.Tryd
end
section
set_option maxRecDepth 100000
set_option linter.unusedVariables false
set_option linter.unusedSimpArgs false
namespace Go.AM.Tryd
open Go Go.AM Go.AM.D
def headF (c : Int) : Int × Int :=
 if c < 128 then (IntKind.wrap .i64 c, 0) else if (decide (c ≥ 194) && decide (c < 224)) = true then (IntKind.wrap .i64 (andI .u8 c 31), 1) else if (decide (c ≥ 224) && decide (c < 240)) = true then (IntKind.wrap .i64 (andI .u8 c 15), 2) else if (decide (c ≥ 240) && decide (c < 245)) = true then (IntKind.wrap .i64 (andI .u8 c 7), 3) else (0, -1)
theorem head_ (c : Int) : PFn PR (.fn (.func 116) [] []) [.lit (.int .u8 c)] (.tup [.lit (.int .i64 ((headF c).1)), .lit (.int .i64 ((headF c).2))]) := by
 refine PFn_of Go.Proofs.Tryd.func116 rfl (by rfl) Go.Proofs.Tryd.ntmps116 rfl (by simp) fun h => ?_
 refine AW_seq (AW_region rfl ?_)
 refine qa (v := vi 0) ?_
 refine qa (v := vi 0) ?_
 refine AL_nil (AW_seq (AW_block (AW_seq (AW_region rfl ?_))))
 refine qm ?_
 refine qp (v := vb (decide ((c : Int) < 128))) pI ?_
 refine qa ?_
 refine AL_keep [(0,_),(2,_),(3,_),(4,_)] ⟨rfl,rfl,rfl,rfl,trivial⟩ ?_
 refine AL_nil ?_
 refine AW_cond _ rfl (fun hc1 => ?_) (fun hc1 => ?_)
 ·replace hc1 := of_decide_eq_true hc1
  refine AW_seq (AW_region rfl ?_)
  refine qm ?_
  refine qp (v := vi (IntKind.wrap .i64 c)) (PO_convInt rfl un5 un3 rfl) ?_
  refine qa ?_
  refine qa (v := vi 0) ?_
  refine AL_keep [(0,_),(2,_),(3,_)] ⟨rfl,rfl,rfl,trivial⟩ ?_
  refine AL_nil ?_
  refine AW_ret ?_
  exact ret_le2 (.inl rfl) rfl (by rw [headF, if_pos hc1]) (.refl _)
 ·replace hc1 := of_decide_eq_false hc1
  refine AW_seq (AW_region rfl ?_)
  refine qm ?_
  refine qp (v := vb (decide ((c : Int) ≥ 194))) pI ?_
  refine qm ?_
  refine AL_jk 3 15 (vb ((decide ((c : Int) ≥ 194)) && (decide ((c : Int) < 224)))) [(0,_),(2,_),(3,_),(10,_),(11,_),(12,_)] ⟨rfl,rfl,rfl,rfl,rfl,rfl,trivial⟩ ?_ ?_
  ·refine AL_split 12 _ rfl (fun hg12 => ?_) (fun hg12 => ?_)
   ·refine gm ?_
    refine qg (v := vb (decide ((c : Int) < 224))) pI ?_
    refine qk ?_
    refine AL_say (k := 15) (vb ((decide ((c : Int) ≥ 194)) && (decide ((c : Int) < 224)))) rfl (by rw [hg12]; rfl) ?_
    refine AL_say (k := 12) (vb (decide ((c : Int) ≥ 194))) rfl (by rw [hg12]) ?_
    exact nl ⟨rfl,rfl,rfl,rfl,rfl,rfl,rfl,trivial⟩
   ·refine qz ?_
    refine qz ?_
    refine qk ?_
    refine AL_say (k := 15) (vb ((decide ((c : Int) ≥ 194)) && (decide ((c : Int) < 224)))) rfl (by rw [hg12]; rfl) ?_
    refine AL_say (k := 12) (vb (decide ((c : Int) ≥ 194))) rfl (by rw [hg12]) ?_
    exact nl ⟨rfl,rfl,rfl,rfl,rfl,rfl,rfl,trivial⟩
  ·refine qa ?_
   refine AL_keep [(0,_),(2,_),(3,_),(9,_)] ⟨rfl,rfl,rfl,rfl,trivial⟩ ?_
   refine AL_nil ?_
   refine AW_cond _ rfl (fun hc3 => ?_) (fun hc3 => ?_)
   ·refine AW_seq (AW_region rfl ?_)
    refine qm ?_
    refine qp (v := .lit (.int .u8 (andI .u8 c 31))) pI ?_
    refine qp (v := vi (IntKind.wrap .i64 (andI .u8 c 31))) (PO_convInt rfl un5 un3 rfl) ?_
    refine qa ?_
    refine qa (v := vi 1) ?_
    refine AL_keep [(0,_),(2,_),(3,_)] ⟨rfl,rfl,rfl,trivial⟩ ?_
    refine AL_nil ?_
    refine AW_ret ?_
    exact ret_le2 (.inl rfl) rfl (by rw [headF, if_neg hc1, if_pos hc3]) (.refl _)
   ·refine AW_seq (AW_region rfl ?_)
    refine qm ?_
    refine qp (v := vb (decide ((c : Int) ≥ 224))) pI ?_
    refine qm ?_
    refine AL_jk 3 25 (vb ((decide ((c : Int) ≥ 224)) && (decide ((c : Int) < 240)))) [(0,_),(2,_),(3,_),(20,_),(21,_),(22,_)] ⟨rfl,rfl,rfl,rfl,rfl,rfl,trivial⟩ ?_ ?_
    ·refine AL_split 22 _ rfl (fun hg22 => ?_) (fun hg22 => ?_)
     ·refine gm ?_
      refine qg (v := vb (decide ((c : Int) < 240))) pI ?_
      refine qk ?_
      refine AL_say (k := 25) (vb ((decide ((c : Int) ≥ 224)) && (decide ((c : Int) < 240)))) rfl (by rw [hg22]; rfl) ?_
      refine AL_say (k := 22) (vb (decide ((c : Int) ≥ 224))) rfl (by rw [hg22]) ?_
      exact nl ⟨rfl,rfl,rfl,rfl,rfl,rfl,rfl,trivial⟩
     ·refine qz ?_
      refine qz ?_
      refine qk ?_
      refine AL_say (k := 25) (vb ((decide ((c : Int) ≥ 224)) && (decide ((c : Int) < 240)))) rfl (by rw [hg22]; rfl) ?_
      refine AL_say (k := 22) (vb (decide ((c : Int) ≥ 224))) rfl (by rw [hg22]) ?_
      exact nl ⟨rfl,rfl,rfl,rfl,rfl,rfl,rfl,trivial⟩
    ·refine qa ?_
     refine AL_keep [(0,_),(2,_),(3,_),(19,_)] ⟨rfl,rfl,rfl,rfl,trivial⟩ ?_
     refine AL_nil ?_
     refine AW_cond _ rfl (fun hc5 => ?_) (fun hc5 => ?_)
     ·refine AW_seq (AW_region rfl ?_)
      refine qm ?_
      refine qp (v := .lit (.int .u8 (andI .u8 c 15))) pI ?_
      refine qp (v := vi (IntKind.wrap .i64 (andI .u8 c 15))) (PO_convInt rfl un5 un3 rfl) ?_
      refine qa ?_
      refine qa (v := vi 2) ?_
      refine AL_keep [(0,_),(2,_),(3,_)] ⟨rfl,rfl,rfl,trivial⟩ ?_
      refine AL_nil ?_
      refine AW_ret ?_
      exact ret_le2 (.inl rfl) rfl (by rw [headF, if_neg hc1, if_neg (by rw [hc3]; simp), if_pos hc5]) (.refl _)
     ·refine AW_seq (AW_region rfl ?_)
      refine qm ?_
      refine qp (v := vb (decide ((c : Int) ≥ 240))) pI ?_
      refine qm ?_
      refine AL_jk 3 35 (vb ((decide ((c : Int) ≥ 240)) && (decide ((c : Int) < 245)))) [(0,_),(2,_),(3,_),(30,_),(31,_),(32,_)] ⟨rfl,rfl,rfl,rfl,rfl,rfl,trivial⟩ ?_ ?_
      ·refine AL_split 32 _ rfl (fun hg32 => ?_) (fun hg32 => ?_)
       ·refine gm ?_
        refine qg (v := vb (decide ((c : Int) < 245))) pI ?_
        refine qk ?_
        refine AL_say (k := 35) (vb ((decide ((c : Int) ≥ 240)) && (decide ((c : Int) < 245)))) rfl (by rw [hg32]; rfl) ?_
        refine AL_say (k := 32) (vb (decide ((c : Int) ≥ 240))) rfl (by rw [hg32]) ?_
        exact nl ⟨rfl,rfl,rfl,rfl,rfl,rfl,rfl,trivial⟩
       ·refine qz ?_
        refine qz ?_
        refine qk ?_
        refine AL_say (k := 35) (vb ((decide ((c : Int) ≥ 240)) && (decide ((c : Int) < 245)))) rfl (by rw [hg32]; rfl) ?_
        refine AL_say (k := 32) (vb (decide ((c : Int) ≥ 240))) rfl (by rw [hg32]) ?_
        exact nl ⟨rfl,rfl,rfl,rfl,rfl,rfl,rfl,trivial⟩
      ·refine qa ?_
       refine AL_keep [(0,_),(2,_),(3,_),(29,_)] ⟨rfl,rfl,rfl,rfl,trivial⟩ ?_
       refine AL_nil ?_
       refine AW_cond _ rfl (fun hc7 => ?_) (fun hc7 => ?_)
       ·refine AW_seq (AW_region rfl ?_)
        refine qm ?_
        refine qp (v := .lit (.int .u8 (andI .u8 c 7))) pI ?_
        refine qp (v := vi (IntKind.wrap .i64 (andI .u8 c 7))) (PO_convInt rfl un5 un3 rfl) ?_
        refine qa ?_
        refine qa (v := vi 3) ?_
        refine AL_keep [(0,_),(2,_),(3,_)] ⟨rfl,rfl,rfl,trivial⟩ ?_
        refine AL_nil ?_
        refine AW_ret ?_
        exact ret_le2 (.inl rfl) rfl (by rw [headF, if_neg hc1, if_neg (by rw [hc3]; simp), if_neg (by rw [hc5]; simp), if_pos hc7]) (.refl _)
       ·refine AW_skip (AW_seq (AW_region rfl ?_))
        refine qa (v := vi 0) ?_
        refine qa (v := vi (-1)) ?_
        refine AL_nil ?_
        refine AW_ret ?_
        exact ret_le2 (.inl rfl) rfl (by rw [headF, if_neg hc1, if_neg (by rw [hc3]; simp), if_neg (by rw [hc5]; simp), if_neg (by rw [hc7]; simp)]) (.refl _)
def moreF (s : ByteArray) : Int := if s ≠ ⟨#[]⟩ then (headF ((head8 (bys s)).toNat : Int)).2 else -1
def firstF (s : ByteArray) : Int := if s ≠ ⟨#[]⟩ then (headF ((head8 (bys s)).toNat : Int)).1 else 0
abbrev contF (s : ByteArray) (i : Nat) : Int := ((((bys s).getD (i + 1) 0) : UInt8).toNat : Int)
def tailF (s : ByteArray) : Nat → Nat → Int → Option Int
 | 0, _, r => some r
 | k + 1, i, r => if andI .u8 (contF s i) 192 ≠ 128 then none else tailF s k (i + 1) (orI .i64 (shlI .i64 r 6) (IntKind.wrap .i64 (andI .u8 (contF s i) 63)))
def ugetF (s : ByteArray) : Int × Int × Int :=
 if (decide (moreF s < 0) || decide ((s.size : Int) ≤ moreF s)) = true then (0, 0, 4) else
 match tailF s (moreF s).toNat 0 (firstF s) with
 | none => (0, 0, 4)
 | some r => if (mayF r && decide (sizeF r = moreF s + 1)) = true then (r, moreF s + 1, 0) else (0, 0, 4)
theorem bne_size {s : ByteArray} (h : s ≠ ⟨#[]⟩) : 0 < (bys s).length := by
 rcases Nat.eq_zero_or_pos (bys s).length with e | e
 ·exact absurd (bytes_inj (b := ⟨#[]⟩) (List.eq_nil_of_length_eq_zero e)) h
 ·exact e
theorem headF_le (c : Int) : (headF c).2 ≤ 3 := by
 unfold headF; repeat' split
 all_goals simp
theorem moreF_le (s : ByteArray) : moreF s ≤ 3 := by
 unfold moreF; split
 ·exact headF_le _
 ·decide
theorem ugetF_bad {s : ByteArray} (h : (decide (moreF s < 0) || decide ((s.size : Int) ≤ moreF s)) = true) : ugetF s = (0, 0, 4) := by rw [ugetF, if_pos h]
theorem ugetF_go {s : ByteArray} (h : ¬ (decide (moreF s < 0) || decide ((s.size : Int) ≤ moreF s)) = true) : ugetF s = match tailF s (moreF s).toNat 0 (firstF s) with
 | none => (0, 0, 4)
 | some r => if (mayF r && decide (sizeF r = moreF s + 1)) = true then (r, moreF s + 1, 0) else (0, 0, 4) := by rw [ugetF, if_neg h]
theorem cont_get {s : ByteArray} {i : Nat} (h : i + 1 < s.size) : s[((i + 1 : Nat) : Int).toNat]? = some ((bys s).getD (i + 1) 0) :=
 bget (by rw [List.getD_eq_getElem?_getD, List.getElem?_eq_getElem (by rw [bsize]; omega)]; rfl)
theorem uget_ (s : ByteArray) (hs : s.size ≤ 1048576) : PFn PR (.fn (.func 113) [] []) [.lit (.string s)] (.tup [.lit (.int .i64 ((ugetF s).1)), .lit (.int .i64 ((ugetF s).2.1)), .lit (.int .i64 ((ugetF s).2.2))]) := by
 have hsz := bsize s
 refine PFn_of Go.Proofs.Tryd.func113 rfl (by rfl) Go.Proofs.Tryd.ntmps113 rfl (by simp) fun h => ?_
 refine AW_seq (AW_region rfl ?_)
 refine qa (v := vi 0) ?_
 refine qa (v := vi 0) ?_
 refine qa (v := vi 0) ?_
 refine AL_nil ?_
 refine AW_scope (l := 0) (fun σ => ∃ _ : Unit, ugetF s = (0, 0, 4) ∧ At σ 56 [] h [] h) rfl ?_ ?_
 ·refine AW_seq (AW_region rfl ?_)
  refine qa (v := vi 0) ?_
  refine qa (v := vi (-1)) ?_
  refine AL_nil ?_
  refine AW_join (α := Unit) (fun _ => [(5, .lit (.int .i64 (firstF s))), (6, .lit (.int .i64 (moreF s))), (0, .lit (.string s)), (2, .lit (.int .i64 0)), (3, .lit (.int .i64 0)), (4, .lit (.int .i64 0))]) (fun _ => h) (fun _ => True) ?_ ?_
  ·refine AW_seq (AW_region rfl ?_)
   refine qm ?_
   refine qp (v := vb (decide (s ≠ ⟨#[]⟩))) (PO_str rfl rfl rfl rfl) ?_
   refine AL_keep [(0,_),(2,_),(3,_),(4,_),(5,_),(6,_),(9,_)] ⟨rfl,rfl,rfl,rfl,rfl,rfl,rfl,trivial⟩ ?_
   refine AL_nil ?_
   refine AW_cond _ rfl (fun hc2 => ?_) (fun hc2 => ?_)
   ·replace hc2 := of_decide_eq_true hc2
    have hb := bne_size hc2
    refine AW_region rfl ?_
    refine qm ?_
    refine qp (v := .lit (.int .u8 ((head8 (bys s) : UInt8).toNat : Int))) (PO_index_str rfl un9 rfl rfl (by first | decide | omega) (bget (i := 0) (head8_get hb))) ?_
    refine qp (v := .tup [.lit (.int .i64 ((headF ((head8 (bys s) : UInt8).toNat : Int)).1)), .lit (.int .i64 ((headF ((head8 (bys s) : UInt8).toNat : Int)).2))]) (PO_call rfl rfl rfl (head_ _)) ?_
    refine qm ?_
    refine qp (v := vi ((headF ((head8 (bys s) : UInt8).toNat : Int)).1)) (PO_extract rfl rfl rfl) ?_
    refine qp (v := vi ((headF ((head8 (bys s) : UInt8).toNat : Int)).2)) (PO_extract rfl rfl rfl) ?_
    refine qp (v := vi (firstF s)) (PO_eqI (PO_assign rfl rfl) (by rw [firstF, if_pos hc2])) ?_
    refine qp (v := vi (moreF s)) (PO_eqI (PO_assign rfl rfl) (by rw [moreF, if_pos hc2])) ?_
    refine AL_keep [(0,_),(2,_),(3,_),(4,_),(5,_),(6,_)] ⟨rfl,rfl,rfl,rfl,rfl,rfl,trivial⟩ ?_
    refine AL_nil ?_
    exact ⟨(), trivial, ⟨rfl, ⟨rfl, rfl, rfl, rfl, rfl, rfl, trivial⟩, rfl, rfl, rfl⟩⟩
   ·replace hc2 := of_decide_eq_false hc2
    refine AW_say (k := 5) (.lit (.int .i64 (firstF s))) rfl (by rw [firstF, if_neg hc2]) ?_
    refine AW_say (k := 6) (.lit (.int .i64 (moreF s))) rfl (by rw [moreF, if_neg hc2]) ?_
    refine AW_skip ?_
    exact ⟨(), trivial, ⟨rfl, ⟨rfl, rfl, rfl, rfl, rfl, rfl, trivial⟩, rfl, rfl, rfl⟩⟩
  ·rintro _ -
   refine AW_seq (AW_seq (AW_region rfl ?_))
   refine qm ?_
   refine qp (v := vb (decide (((moreF s) : Int) < 0))) pI ?_
   refine qm ?_
   refine AL_jk 5 23 (vb ((decide (((moreF s) : Int) < 0)) || (decide (((s.size : Int) : Int) ≤ (moreF s))))) [(5,_),(6,_),(0,_),(2,_),(3,_),(4,_),(16,_),(17,_),(18,_)] ⟨rfl,rfl,rfl,rfl,rfl,rfl,rfl,rfl,rfl,trivial⟩ ?_ ?_
   ·refine AL_split 18 _ rfl (fun hg18 => ?_) (fun hg18 => ?_)
    ·refine qz ?_
     refine qz ?_
     refine qz ?_
     refine qz ?_
     refine qk ?_
     refine AL_say (k := 23) (vb ((decide (((moreF s) : Int) < 0)) || (decide (((s.size : Int) : Int) ≤ (moreF s))))) rfl (by rw [hg18]; rfl) ?_
     refine AL_say (k := 18) (vb (decide (((moreF s) : Int) < 0))) rfl (by rw [hg18]) ?_
     exact nl ⟨rfl,rfl,rfl,rfl,rfl,rfl,rfl,rfl,rfl,rfl,trivial⟩
    ·refine gm ?_
     refine qg (v := vi (s.size : Int)) (PO_len_str rfl un9 rfl) ?_
     refine gm ?_
     refine qg (v := vb (decide (((s.size : Int) : Int) ≤ (moreF s)))) pI ?_
     refine qk ?_
     refine AL_say (k := 23) (vb ((decide (((moreF s) : Int) < 0)) || (decide (((s.size : Int) : Int) ≤ (moreF s))))) rfl (by rw [hg18]; rfl) ?_
     refine AL_say (k := 18) (vb (decide (((moreF s) : Int) < 0))) rfl (by rw [hg18]) ?_
     exact nl ⟨rfl,rfl,rfl,rfl,rfl,rfl,rfl,rfl,rfl,rfl,trivial⟩
   ·refine AL_keep [(23,_),(5,_),(6,_),(0,_),(2,_),(3,_),(4,_)] ⟨rfl,rfl,rfl,rfl,rfl,rfl,rfl,trivial⟩ ?_
    refine AL_nil ?_
    refine AW_cond _ rfl (fun hc4 => ?_) (fun hc4 => ?_)
    ·refine AW_goto ?_
     exact ⟨(), ugetF_bad hc4, ⟨rfl, trivial, rfl, rfl, rfl⟩⟩
    ·have hgo := ugetF_go (s := s) (by rw [hc4]; simp)
     have hd4 := hc4
     simp only [Bool.or_eq_false_iff, decide_eq_false_iff_not] at hd4
     have hm3 := moreF_le s
     refine AW_skip (AW_seq (AW_seq (AW_region rfl ?_)))
     refine qm ?_
     refine qm (v := vi 0) ?_
     refine AL_nil (AW_block ?_)
     refine AW_iter (fun (z_ : Nat × Int) => match z_ with | (i, r) => [(25, .lit (.int .i64 ((i : Nat) : Int))), (5, .lit (.int .i64 r)), (6, .lit (.int .i64 (moreF s))), (0, .lit (.string s)), (2, .lit (.int .i64 0)), (3, .lit (.int .i64 0)), (4, .lit (.int .i64 0)), (24, .lit (.int .i64 (moreF s)))]) (fun (z_ : Nat × Int) => match z_ with | (i, r) => h) (fun (z_ : Nat × Int) => match z_ with | (i, r) => (i : Int) ≤ moreF s ∧ tailF s (moreF s).toNat 0 (firstF s) = tailF s ((moreF s).toNat - i) i r) (fun (z_ : Nat × Int) => match z_ with | (i, r) => (moreF s).toNat - i) ((0, firstF s)) ⟨rfl, rfl, rfl, rfl, rfl, rfl, rfl, rfl, trivial⟩ rfl (⟨by omega, rfl⟩) ?_
     rintro ⟨i, r⟩ ⟨hIi, hT⟩
     refine AW_seq (AW_region rfl ?_)
     refine qp (v := vb (decide ((((i : Nat) : Int) : Int) < (moreF s)))) pI ?_
     refine AL_nil (AW_seq ?_)
     refine AW_cond _ rfl (fun hc6 => ?_) (fun hc6 => ?_)
     ·replace hc6 := of_decide_eq_true hc6
      obtain ⟨kk, hk⟩ : ∃ kk, (moreF s).toNat - i = kk + 1 := ⟨(moreF s).toNat - i - 1, by omega⟩
      rw [hk, tailF] at hT
      refine AW_skip (AW_seq (AW_block (AW_seq (AW_region rfl ?_))))
      refine qm ?_
      refine qa ?_
      refine AL_keep [(25,_),(5,_),(6,_),(0,_),(2,_),(3,_),(4,_),(24,_),(7,_)] ⟨rfl,rfl,rfl,rfl,rfl,rfl,rfl,rfl,rfl,trivial⟩ ?_
      refine AL_nil (AW_seq (AW_seq (AW_region rfl ?_)))
      refine qm ?_
      refine qm ?_
      refine qp (v := vn (i + 1)) (PO_inc rfl rfl rfl (by first | omega | simp_all; omega)) ?_
      refine qp (v := .lit (.int .u8 (((bys s).getD (i + 1) 0 : UInt8).toNat : Int))) (PO_index_str rfl un9 rfl rfl (by first | decide | omega) (cont_get (by omega))) ?_
      refine qp (v := .lit (.int .u8 (andI .u8 (((bys s).getD (i + 1) 0 : UInt8).toNat : Int) 192))) pI ?_
      refine qp (v := vb (decide ((andI .u8 (((bys s).getD (i + 1) 0 : UInt8).toNat : Int) 192 : Int) ≠ 128))) pI ?_
      refine AL_keep [(25,_),(5,_),(6,_),(0,_),(2,_),(3,_),(4,_),(24,_),(7,_),(33,_)] ⟨rfl,rfl,rfl,rfl,rfl,rfl,rfl,rfl,rfl,rfl,trivial⟩ ?_
      refine AL_nil ?_
      refine AW_cond _ rfl (fun hc8 => ?_) (fun hc8 => ?_)
      ·replace hc8 := of_decide_eq_true hc8
       rw [if_pos hc8] at hT
       refine AW_goto ?_
       exact ⟨(), (by rw [hgo, hT]), ⟨rfl, trivial, rfl, rfl, rfl⟩⟩
      ·replace hc8 := of_decide_eq_false hc8
       rw [if_neg hc8] at hT
       refine AW_skip (AW_region rfl ?_)
       refine qm ?_
       refine qp (v := vi (shlI .i64 r 6)) (PO_shift rfl rfl rfl rfl (by first | decide | omega)) ?_
       refine qm ?_
       refine qm ?_
       refine qp (v := vn (i + 1)) (PO_inc rfl rfl rfl (by first | omega | simp_all; omega)) ?_
       refine qp (v := .lit (.int .u8 (((bys s).getD (i + 1) 0 : UInt8).toNat : Int))) (PO_index_str rfl un9 rfl rfl (by first | decide | omega) (cont_get (by omega))) ?_
       refine qp (v := .lit (.int .u8 (andI .u8 (((bys s).getD (i + 1) 0 : UInt8).toNat : Int) 63))) pI ?_
       refine qp (v := vi (IntKind.wrap .i64 (andI .u8 (((bys s).getD (i + 1) 0 : UInt8).toNat : Int) 63))) (PO_convInt rfl un5 un3 rfl) ?_
       refine qp (v := vi (orI .i64 (shlI .i64 r 6) (IntKind.wrap .i64 (andI .u8 (((bys s).getD (i + 1) 0 : UInt8).toNat : Int) 63)))) pI ?_
       refine qa ?_
       refine AL_keep [(25,_),(5,_),(6,_),(0,_),(2,_),(3,_),(4,_),(24,_),(7,_)] ⟨rfl,rfl,rfl,rfl,rfl,rfl,rfl,rfl,rfl,trivial⟩ ?_
       refine AL_nil (AW_region rfl ?_)
       refine qp (v := vn (i + 1)) (PO_inc rfl rfl rfl (by first | omega | simp_all; omega)) ?_
       refine qm ?_
       refine AL_keep [(25,_),(5,_),(6,_),(0,_),(2,_),(3,_),(4,_),(24,_),(7,_)] ⟨rfl,rfl,rfl,rfl,rfl,rfl,rfl,rfl,rfl,trivial⟩ ?_
       refine AL_nil ?_
       exact ⟨(i + 1, _), ⟨by omega, by rw [show (moreF s).toNat - (i + 1) = kk by omega]; exact hT⟩, by simp only []; omega, ⟨rfl, ⟨rfl, rfl, rfl, rfl, rfl, rfl, rfl, rfl, trivial⟩, rfl, rfl, rfl⟩⟩
     ·replace hc6 := of_decide_eq_false hc6
      rw [show (moreF s).toNat - i = 0 by omega, tailF] at hT
      rw [hT] at hgo
      simp only [] at hgo
      refine AW_exit ?_
      refine AW_seq (AW_seq (AW_region rfl ?_))
      refine qm ?_
      refine qp (v := vb (mayF r)) (PO_call rfl rfl rfl (may117_ _)) ?_
      refine qm ?_
      refine AL_jk 6 52 (vb ((mayF r) && (decide (((sizeF r) : Int) = (moreF s) + 1)))) [(25,_),(5,_),(6,_),(0,_),(2,_),(3,_),(4,_),(24,_),(44,_),(45,_),(46,_)] ⟨rfl,rfl,rfl,rfl,rfl,rfl,rfl,rfl,rfl,rfl,rfl,trivial⟩ ?_ ?_
      ·refine AL_split 46 _ rfl (fun hg46 => ?_) (fun hg46 => ?_)
       ·refine gm ?_
        refine qg (v := vi (sizeF r)) (PO_call rfl rfl rfl (size_ _)) ?_
        refine gm ?_
        refine qg (v := vi ((moreF s) + 1)) (PO_fit rfl rfl rfl rfl trivial (i64w (by omega) (by omega))) ?_
        refine qg (v := vb (decide (((sizeF r) : Int) = (moreF s) + 1))) pI ?_
        refine qk ?_
        refine AL_say (k := 52) (vb ((mayF r) && (decide (((sizeF r) : Int) = (moreF s) + 1)))) rfl (by rw [hg46]; rfl) ?_
        refine AL_say (k := 46) (vb (mayF r)) rfl (by rw [hg46]) ?_
        exact nl ⟨rfl,rfl,rfl,rfl,rfl,rfl,rfl,rfl,rfl,rfl,rfl,rfl,trivial⟩
       ·refine qz ?_
        refine qz ?_
        refine qz ?_
        refine qz ?_
        refine qz ?_
        refine qk ?_
        refine AL_say (k := 52) (vb ((mayF r) && (decide (((sizeF r) : Int) = (moreF s) + 1)))) rfl (by rw [hg46]; rfl) ?_
        refine AL_say (k := 46) (vb (mayF r)) rfl (by rw [hg46]) ?_
        exact nl ⟨rfl,rfl,rfl,rfl,rfl,rfl,rfl,rfl,rfl,rfl,rfl,rfl,trivial⟩
      ·refine AL_keep [(52,_),(25,_),(5,_),(6,_),(0,_),(2,_),(3,_),(4,_),(24,_)] ⟨rfl,rfl,rfl,rfl,rfl,rfl,rfl,rfl,rfl,trivial⟩ ?_
       refine AL_nil ?_
       refine AW_cond _ rfl (fun hc11 => ?_) (fun hc11 => ?_)
       ·rw [if_pos hc11] at hgo
        refine AW_seq (AW_region rfl ?_)
        refine qm ?_
        refine qm ?_
        refine qp (v := vi ((moreF s) + 1)) (PO_fit rfl rfl rfl rfl trivial (i64w (by omega) (by omega))) ?_
        refine qa ?_
        refine qa ?_
        refine qa (v := vi 0) ?_
        refine AL_keep [(25,_),(5,_),(6,_),(0,_),(2,_),(3,_),(4,_),(24,_)] ⟨rfl,rfl,rfl,rfl,rfl,rfl,rfl,rfl,trivial⟩ ?_
        refine AL_nil ?_
        refine AW_ret ?_
        exact ret_le2 (.inl rfl) rfl (by rw [hgo]) (.refl _)
       ·rw [if_neg (by rw [hc11]; simp)] at hgo
        refine AW_skip (AW_seq ?_)
        refine AW_label ?_
        refine AW_seq (AW_region rfl ?_)
        refine qa (v := vi 0) ?_
        refine qa (v := vi 0) ?_
        refine qa (v := vi 4) ?_
        refine AL_nil ?_
        refine AW_ret ?_
        exact ret_le2 (.inl rfl) rfl (by rw [hgo]) (.refl _)
 ·rintro σ ⟨_, hbad, hat⟩
  refine AW_at hat ?_
  refine AW_seq (AW_skip (AW_seq (AW_region rfl ?_)))
  refine qa (v := vi 0) ?_
  refine qa (v := vi 0) ?_
  refine qa (v := vi 4) ?_
  refine AL_nil ?_
  refine AW_ret ?_
  exact ret_le2 (.inl rfl) rfl (by rw [hbad]) (.refl _)
theorem urunes_ (s : ByteArray) : PFn PR (.fn (.func 106) [] []) [.lit (.string s)] (.fn (.func 112) [] [.ip [.lit (.string s)]]) := by
 refine PFn_of Go.Proofs.Tryd.func106 rfl (by rfl) Go.Proofs.Tryd.ntmps106 rfl (by simp) fun h => ?_
 refine AW_seq (AW_region rfl ?_)
 refine qp (v := .ip [.lit (.string s)]) (PO_box1 rfl rfl rfl) ?_
 refine qa ?_
 refine AL_nil (AW_seq (AW_region rfl ?_))
 refine qp (v := .fn (.func 112) [] [.ip [.lit (.string s)]]) (PO_makeFunc rfl rfl rfl) ?_
 refine qa ?_
 refine AL_keep [(0,_),(1,_),(2,_)] ⟨rfl,rfl,rfl,trivial⟩ ?_
 refine AL_nil ?_
 refine AW_ret ?_
 exact ret_le2 (.inl rfl) rfl (by rfl) (.refl _)
theorem len_done {α : Type} {xs : List α} {i : Nat} (hi : i ≤ xs.length) (h : xs.drop i = []) : xs.length = i := by
 have := congrArg List.length h; simp at this; omega
theorem ugetF_ok {s : ByteArray} (h : (ugetF s).2.2 = 0) : 1 ≤ (ugetF s).2.1 ∧ (ugetF s).2.1 ≤ (s.size : Int) := by
 unfold ugetF at h ⊢
 split at h
 ·simp at h
 ·rename_i hc
  simp only [Bool.not_eq_true, Bool.or_eq_false_iff, decide_eq_false_iff_not] at hc
  rw [if_neg (by simp [hc.1, hc.2])]
  split at h
  ·simp at h
  ·rename_i r hr
   split at h
   ·rename_i h2; rw [if_pos h2]; simp only []; omega
   ·simp at h
def urunes (s : ByteArray) (k : Nat) : List (Nat × Int) :=
 if _h : k < s.size then
  if _h0 : (ugetF (s.extract k s.size)).2.2 = 0 then
   (k, (ugetF (s.extract k s.size)).1) :: urunes s (k + (ugetF (s.extract k s.size)).2.1.toNat)
  else []
 else []
termination_by s.size - k
decreasing_by
 have := (ugetF_ok _h0).1
 omega
def encR (p : Nat × Int) : List AV := [.lit (.int .i64 (p.1 : Nat)), .lit (.int .i64 p.2)]
theorem urunes_end {s : ByteArray} {k : Nat} (h : ¬ k < s.size) : urunes s k = [] := by rw [urunes, dif_neg h]
theorem urunes_bad {s : ByteArray} {k : Nat} (h0 : ¬ (ugetF (s.extract k s.size)).2.2 = 0) : urunes s k = [] := by
 rw [urunes]; split <;> simp [h0]
theorem urunes_step {s : ByteArray} {k : Nat} (h : k < s.size) (h0 : (ugetF (s.extract k s.size)).2.2 = 0) : urunes s k = (k, (ugetF (s.extract k s.size)).1) :: urunes s (k + (ugetF (s.extract k s.size)).2.1.toNat) := by
 rw [urunes, dif_pos h, dif_pos h0]
theorem riter_ (s : ByteArray) (hs : s.size ≤ 1048576) : AIter PR (.fn (.func 112) [] [.ip [.lit (.string s)]]) ((urunes s 0).map encR) := by
 intro y J Jx hy hmono h hJ0
 generalize hxs : (urunes s 0).map encR = xs at hy ⊢
 refine AFn_of Go.Proofs.Tryd.func112 rfl (by rfl) (by rw [Go.Proofs.Tryd.ntmps112]; simp) ?_
 rw [Go.Proofs.Tryd.ntmps112]
 refine AW_seq (AW_region rfl ?_)
 refine qa (v := vi 0) ?_
 refine AL_nil (AW_block ?_)
 refine AW_iter (fun (z_ : Nat × Nat × Heap) => match z_ with | (k, i, hp) => [(3, .lit (.int .i64 ((k : Nat) : Int))), (0, y), (1, .ip [.lit (.string s)])]) (fun (z_ : Nat × Nat × Heap) => match z_ with | (k, i, hp) => hp) (fun (z_ : Nat × Nat × Heap) => match z_ with | (k, i, hp) => k ≤ s.size ∧ i ≤ xs.length ∧ J i hp ∧ xs.drop i = (urunes s k).map encR) (fun (z_ : Nat × Nat × Heap) => match z_ with | (k, i, hp) => s.size - k) ((0, 0, h)) ⟨rfl, rfl, rfl, trivial⟩ rfl (⟨by omega, by omega, hJ0, hxs.symm⟩) ?_
 rintro ⟨k, i, hp⟩ ⟨hk, hi, hJi, hX⟩
 refine AW_seq (AW_seq (AW_region rfl ?_))
 refine qm ?_
 refine qp (v := vs s) (PO_load rfl ty9 rfl rfl) ?_
 refine qp (v := vi (s.size : Int)) (PO_len_str rfl un9 rfl) ?_
 refine qp (v := vb (decide ((((k : Nat) : Int) : Int) < (s.size : Int)))) pI ?_
 refine AL_keep [(3,_),(0,_),(1,_),(10,_)] ⟨rfl,rfl,rfl,rfl,trivial⟩ ?_
 refine AL_nil ?_
 refine AW_cond _ rfl (fun hc1 => ?_) (fun hc1 => ?_)
 ·replace hc1 := of_decide_eq_true hc1
  have hk1 : k < s.size := by omega
  have hex : (s.extract k s.size).size = s.size - k := by rw [ByteArray.size_extract]; omega
  refine AW_skip (AW_block (AW_seq (AW_region rfl ?_)))
  refine qp (v := vs s) (PO_load rfl ty9 rfl rfl) ?_
  refine qm ?_
  refine qp (v := vs (s.extract k s.size)) (PO_slice_str (l := ((k : Nat) : Int)) (h := (s.size : Int)) rfl un9 rfl rfl rfl (by omega) (by omega) (by omega)) ?_
  refine qp (v := .tup [.lit (.int .i64 ((ugetF (s.extract k s.size)).1)), .lit (.int .i64 ((ugetF (s.extract k s.size)).2.1)), .lit (.int .i64 ((ugetF (s.extract k s.size)).2.2))]) (PO_call rfl rfl rfl (uget_ _ (by first | assumption | omega))) ?_
  refine qm ?_
  refine qp (v := vi ((ugetF (s.extract k s.size)).1)) (PO_extract rfl rfl rfl) ?_
  refine qp (v := vi ((ugetF (s.extract k s.size)).2.1)) (PO_extract rfl rfl rfl) ?_
  refine qp (v := vi ((ugetF (s.extract k s.size)).2.2)) (PO_extract rfl rfl rfl) ?_
  refine qa ?_
  refine qa ?_
  refine qa ?_
  refine AL_keep [(3,_),(0,_),(1,_),(4,_),(5,_),(6,_)] ⟨rfl,rfl,rfl,rfl,rfl,rfl,trivial⟩ ?_
  refine AL_nil (AW_seq (AW_seq (AW_region rfl ?_)))
  refine qm ?_
  refine qp (v := vb (decide (((ugetF (s.extract k s.size)).2.2 : Int) ≠ 0))) pI ?_
  refine qm ?_
  refine AL_split 21 _ rfl (fun hg21 => ?_) (fun hg21 => ?_)
  ·rw [urunes_bad (by simpa using hg21)] at hX
   refine qz ?_
   refine qz ?_
   refine qz ?_
   refine qz ?_
   refine qz ?_
   refine qk ?_
   refine AL_keep [(3,_),(0,_),(1,_),(4,_),(5,_),(6,_),(27,_)] ⟨rfl,rfl,rfl,rfl,rfl,rfl,rfl,trivial⟩ ?_
   refine AL_nil ?_
   refine AW_cond true rfl (fun _ => ?_) (fun e => by cases e)
   refine AW_ret ?_
   exact ret_R (.inl rfl) rfl ⟨rfl, .inl (by rw [len_done hi hX]; exact hJi)⟩
  ·have h00 : (ugetF (s.extract k s.size)).2.2 = 0 := by simpa using hg21
   have hok := ugetF_ok h00
   rw [hex] at hok
   rw [urunes_step hk1 h00, List.map_cons] at hX
   have hxi : xs[i]? = some (encR (k, (ugetF (s.extract k s.size)).1)) := by rw [← List.head?_drop, hX]; rfl
   have hil : i < xs.length := (List.getElem?_eq_some_iff.1 hxi).1
   have hX2 : xs.drop (i + 1) = (urunes s (k + (ugetF (s.extract k s.size)).2.1.toNat)).map encR := by rw [← List.tail_drop, hX]; rfl
   refine gm (v := y) ?_
   refine gm ?_
   refine gm ?_
   refine AL_mg rfl rfl rfl rfl rfl rfl (MO_call rfl rfl rfl (hy i _ hp hxi hJi)) ?_
   rintro _ h1 (⟨rfl, hJ1⟩ | ⟨rfl, hJ1⟩)
   ·refine qg (v := vb false) (PO_not (b := true) rfl rfl) ?_
    refine qk ?_
    refine AL_keep [(3,_),(0,_),(1,_),(4,_),(5,_),(6,_),(27,_)] ⟨rfl,rfl,rfl,rfl,rfl,rfl,rfl,trivial⟩ ?_
    refine AL_nil ?_
    refine AW_cond false rfl (fun e => by cases e) (fun _ => ?_)
    refine AW_skip (AW_region rfl ?_)
    refine qm ?_
    refine qm ?_
    refine qp (v := vn (k + (ugetF (s.extract k s.size)).2.1.toNat)) (PO_fit rfl rfl rfl rfl trivial (by rw [i64w (by omega) (by omega)]; omega)) ?_
    refine qa ?_
    refine AL_keep [(3,_),(0,_),(1,_),(4,_),(5,_),(6,_),(27,_)] ⟨rfl,rfl,rfl,rfl,rfl,rfl,rfl,trivial⟩ ?_
    refine AL_nil ?_
    exact ⟨(k + (ugetF (s.extract k s.size)).2.1.toNat, i + 1, h1), ⟨by omega, by omega, hJ1, hX2⟩, by simp only []; omega, ⟨rfl, ⟨rfl, rfl, rfl, trivial⟩, rfl, rfl, rfl⟩⟩
   ·refine qg (v := vb true) (PO_not (b := false) rfl rfl) ?_
    refine qk ?_
    refine AL_keep [(3,_),(0,_),(1,_),(4,_),(5,_),(6,_),(27,_)] ⟨rfl,rfl,rfl,rfl,rfl,rfl,rfl,trivial⟩ ?_
    refine AL_nil ?_
    refine AW_cond true rfl (fun _ => ?_) (fun e => by cases e)
    refine AW_ret ?_
    exact ret_R (.inl rfl) rfl ⟨rfl, .inr ⟨i + 1, by omega, hJ1⟩⟩
 ·replace hc1 := of_decide_eq_false hc1
  rw [urunes_end (by omega)] at hX
  refine AW_exit ?_
  exact ret_R (.inr rfl) rfl ⟨rfl, .inl (by rw [len_done hi hX]; exact hJi)⟩
end Go.AM.Tryd
end
section
set_option maxRecDepth 100000
set_option linter.unusedVariables false
set_option linter.unusedSimpArgs false
namespace Go.AM.Tryd
open Go Go.AM Go.AM.D
def endN (l : List (Nat × Int)) : Nat → Int
 | 0 => 0
 | i + 1 => match l[i]? with
  | some p => (p.1 : Int) + sizeF p.2
  | none => 0
def validU (s : ByteArray) : Bool := decide (endN (urunes s 0) (urunes s 0).length = (s.size : Int))
theorem sizeF_le (r : Int) : 1 ≤ sizeF r ∧ sizeF r ≤ 4 := by
 unfold sizeF; split; omega; split; omega; split <;> omega
theorem urunes_lt {s : ByteArray} {p : Nat × Int} : ∀ (n k : Nat), s.size - k ≤ n → p ∈ urunes s k → p.1 < s.size := by
 intro n
 induction n with
 | zero => intro k hk hp; rw [urunes_end (by omega)] at hp; cases hp
 | succ n ih =>
  intro k hk hp
  by_cases hks : k < s.size
  ·by_cases h0 : (ugetF (s.extract k s.size)).2.2 = 0
   ·rw [urunes_step hks h0] at hp
    rcases List.mem_cons.1 hp with rfl | hp
    ·exact hks
    ·have := (ugetF_ok h0).1
     exact ih _ (by omega) hp
   ·rw [urunes_bad h0] at hp; cases hp
  ·rw [urunes_end hks] at hp; cases hp
def pOf (s : ByteArray) (i : Nat) : Nat × Int := (urunes s 0).getD i (0, 0)
theorem pOf_get {s : ByteArray} {i : Nat} {p : Nat × Int} (h : (urunes s 0)[i]? = some p) : pOf s i = p := by rw [pOf, List.getD_eq_getElem?_getD, h]; rfl
theorem pOf_mem {s : ByteArray} {i : Nat} {x : List AV} (h : ((urunes s 0).map encR)[i]? = some x) : (urunes s 0)[i]? = some (pOf s i) ∧ x = encR (pOf s i) ∧ (pOf s i).1 < s.size := by
 rw [List.getElem?_map] at h
 cases hq : (urunes s 0)[i]? with
 | none => rw [hq] at h; cases h
 | some p =>
  rw [hq] at h
  rw [pOf_get hq]
  exact ⟨rfl, (Option.some.inj h).symm, urunes_lt _ 0 (Nat.le_refl _) (List.mem_of_getElem? hq)⟩
theorem uvalid_ (s : ByteArray) (hs : s.size ≤ 1048576) : PFn PR (.fn (.func 105) [] []) [.lit (.string s)] (.lit (.bool (validU s))) := by
 refine PFn_ofG Go.Proofs.Tryd.func105 rfl (by rfl) Go.Proofs.Tryd.ntmps105 rfl (by simp) fun h => ?_
 refine AW_seq (AW_region rfl ?_)
 refine qa (v := vb false) ?_
 refine AL_nil (AW_seq (AW_region rfl ?_))
 refine AL_alloc rfl rfl rfl rfl z3 fun b hb => ?_
 refine AL_store (b := b) (off := 0) (cs := zs3) (v := .lit (.int .i64 0)) rfl rfl rfl ty3 rfl rfl (Heap.upd_same _ _ _) rfl rfl (by simp) ?_
 have hle0 : h.le ((h.upd b (some (.row zs3))).upd b (some (.row (setCells zs3 0 (acells (.lit (.int .i64 0))))))) := Heap.le_upd (Heap.le_upd (.refl h) hb _) hb _
 have hrow0 : ((h.upd b (some (.row zs3))).upd b (some (.row (setCells zs3 0 (acells (.lit (.int .i64 0))))))) b = (some (.row [.lit (.int .i64 (endN (urunes s 0) 0))])) := by rw [Heap.upd_same]; rfl
 refine AL_nil (AW_seq (AW_seq (AW_region rfl ?_)))
 refine qm ?_
 refine qp (v := .fn (.func 112) [] [.ip [.lit (.string s)]]) (PO_call rfl rfl rfl (urunes_ _)) ?_
 refine AL_keep [(0,_),(2,_),(3,_),(7,_)] ⟨rfl,rfl,rfl,rfl,trivial⟩ ?_
 refine AL_nil (AW_block ?_)
 refine AW_rangeF (xs := ((urunes s 0).map encR)) rfl Go.Proofs.Tryd.func112 rfl (by rfl) (riter_ s hs) (fun i hp => h.le hp ∧ hp b = (some (.row [.lit (.int .i64 (endN (urunes s 0) i))]))) (fun _ _ _ => False) (fun i tm => True ∧ Looks tm [(4, .lit (.int .i64 (((pOf s i).1 : Nat) : Int))), (5, .lit (.int .i64 ((pOf s i).2))), (2, .lit (.bool false)), (3, .ptr b 0)]) rfl (by intro x hx; simp only [List.mem_map] at hx; obtain ⟨p, -, rfl⟩ := hx; rfl) ⟨hle0, hrow0⟩ ?_ ?_ ?_ ?_ ?_ ?_
 ·intro l_ hl i h1 h2 hJ hst
  exact ⟨Steady.le (Heap.none_of hle0 hl) hJ.1 hst, hst.at hJ.2 rfl⟩
 ·intro l_ hl e i h1 h2 hJ hst
  exact hJ
 ·intro l_ i x hr hx hJ
  obtain ⟨hp, rfl, hlt⟩ := pOf_mem hx
  refine AW_keep [(8, .lit (.int .i64 (((pOf s i).1 : Nat) : Int))), (9, .lit (.int .i64 ((pOf s i).2))), (0, .lit (.string s)), (2, .lit (.bool false)), (3, .ptr b 0), (7, .fn (.func 112) [] [.ip [.lit (.string s)]])] ⟨rfl, rfl, rfl, rfl, rfl, rfl, trivial⟩ ?_
  refine AW_seq (AW_region rfl ?_)
  refine qa ?_
  refine AL_nil (AW_region rfl ?_)
  refine qa ?_
  refine AL_nil ?_
  exact ⟨rfl, rfl, rfl, .refl _, hJ, trivial, ⟨rfl, rfl, rfl, rfl, trivial⟩⟩
 ·intro l_ i x hr tm hx hJ hA
  obtain ⟨hA, hL⟩ := hA
  refine AW_ghost (Looks.sub hL).ghost ?_
  clear hL
  obtain ⟨hle, hrow⟩ := hJ
  obtain ⟨hp, -, hlt⟩ := pOf_mem hx
  have hsz4 := sizeF_le (pOf s i).2
  refine AW_block (AW_region rfl ?_)
  refine qm ?_
  refine qm ?_
  refine qp (v := vi (sizeF ((pOf s i).2))) (PO_call rfl rfl rfl (size_ _)) ?_
  refine qp (v := vi ((((pOf s i).1 : Nat) : Int) + (sizeF ((pOf s i).2)))) (PO_fit rfl rfl rfl rfl trivial (i64w (by omega) (by omega))) ?_
  refine AL_store (b := b) (off := 0) (cs := [.lit (.int .i64 (endN (urunes s 0) i))]) (v := .lit (.int .i64 ((((pOf s i).1 : Nat) : Int) + sizeF (pOf s i).2))) rfl rfl rfl ty3 rfl rfl hrow rfl rfl (by simp) ?_
  refine AL_keep [(4,_),(5,_),(2,_),(3,_)] ⟨rfl,rfl,rfl,rfl,trivial⟩ ?_
  refine AL_nil ?_
  exact ⟨⟨Heap.le_upd hle hb _, (Heap.upd_same _ _ _).trans (by rw [endN, hp]; rfl)⟩, rfl⟩
 ·intro hd r_ hr0 hmark hJ
  obtain ⟨hle, hrow⟩ := hJ
  rw [List.length_map] at hrow
  have hrn : h r_ = none := Heap.none_of hle0 hr0
  refine AW_seq (AW_region rfl ?_)
  refine qp (v := vi (endN (urunes s 0) (urunes s 0).length)) (PO_load_row (b := b) (off := 0) (cs := [.lit (.int .i64 (endN (urunes s 0) (urunes s 0).length))]) rfl ty3 rfl hrow rfl) ?_
  refine qm ?_
  refine qp (v := vi (s.size : Int)) (PO_len_str rfl un9 rfl) ?_
  refine qp (v := vb (decide (((endN (urunes s 0) (urunes s 0).length) : Int) = (s.size : Int)))) pI ?_
  refine qa ?_
  refine AL_keep [(0,_),(2,_),(3,_),(7,_)] ⟨rfl,rfl,rfl,rfl,trivial⟩ ?_
  refine AL_nil ?_
  refine AW_ret ?_
  exact ret_G (.inl rfl) (Results.of_ares rfl) (by rfl) hle (by simpa using hrn)
 ·intro e i hd r_ hr0 hmark hc hJx
  exact hJx.elim
end Go.AM.Tryd
end
