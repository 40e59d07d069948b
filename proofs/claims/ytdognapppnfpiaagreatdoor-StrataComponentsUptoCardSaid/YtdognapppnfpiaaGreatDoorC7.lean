/- A part of the proof: walks of the code and laws that they use (Am10, Am11, Am12, Am13). Conditions: as each theorem names them. -/
import Derived.OrdersIn
import Derived.Test.YtdognapppnfpiaaGreatDoorC6
section
set_option linter.unusedVariables false
set_option linter.unusedSimpArgs false
namespace Go.AM
open Go.RowKit
def edgeB (l : List Oper) (i j : Nat) : Bool := match l[i]? with
  | some o => o.after.toList.any fun e => Nat.beq e.on j && Region.binds .any e
  | none => false
def dstAt (l : List Oper) (i : Nat) : Option Nat := (l[i]?).bind (·.dst)
def notDst (l : List Oper) (k : Nat) : Bool := l.all fun o => match o.dst with | some d => !Nat.beq d k | none => true
def drawOk (m : Nat) (l : List Oper) : Bool :=
  (l.zipIdx.all fun (o, i) => (Nat.blt i m || match o.guard with | none => true | some _ => false) && o.after.toList.all (fun e => !Region.binds .any e || Nat.blt e.on i) &&
    (match o.dst with | some d => (l.zipIdx.all fun (o', i') => Nat.beq i i' || (match o'.dst with | some d' => !Nat.beq d d' | none => true)) | none => true)) &&
  (List.range l.length).all fun i => Nat.blt i m || (List.range i).all fun j => edgeB l i j
def GuardB (l : List Oper) (tm : List (Nat × AV)) (o : Oper) (yes : Bool) : Prop := match o.guard with
  | none => yes = true
  | some (j, want) => ∃ t, dstAt l j = some t ∧ ((∃ b, look tm t = some (.lit (.bool b)) ∧ (b == want) = yes) ∨ (look tm t = some (.tup []) ∧ yes = false))
def StepB (P : Program) (ρ : Option Nat) (l : List Oper) (o : Oper) (σ : AS) (v : AV) : Prop := (GuardB l σ.tm o true ∧ PO P ρ o σ v) ∨ (GuardB l σ.tm o false ∧ v = .tup [])
def NeedB (l : List Oper) (tm : List (Nat × AV)) (vals : List AV) (i : Nat) (p : Nat × AV) : Prop :=
  (∃ j, edgeB l i j = true ∧ dstAt l j = some p.1 ∧ vals[j]? = some p.2) ∨ (notDst l p.1 = true ∧ look tm p.1 = some p.2)
def KnowB (l : List Oper) (tm : List (Nat × AV)) (m : Nat) (vals : List AV) (p : Nat × AV) : Prop :=
  (∃ j, j < m ∧ dstAt l j = some p.1 ∧ vals[j]? = some p.2) ∨ (notDst l p.1 = true ∧ look tm p.1 = some p.2)
theorem notDst_spec {l : List Oper} {k : Nat} (h : notDst l k = true) {i : Nat} {o : Oper} (hi : l[i]? = some o) : o.dst ≠ some k := by
  unfold notDst at h
  rw [List.all_eq_true] at h
  have := h o (List.mem_of_getElem? hi)
  intro e
  rw [e] at this
  simp at this
theorem edgeB_spec {l : List Oper} {i j : Nat} (h : edgeB l i j = true) : ∃ o, l[i]? = some o ∧ ∃ e ∈ o.after, Region.binds .any e = true ∧ e.on = j := by
  unfold edgeB at h
  split at h
  · rename_i o ho
    rw [List.any_eq_true] at h
    obtain ⟨e, he, h⟩ := h
    simp only [Bool.and_eq_true] at h
    exact ⟨o, ho, e, by simpa using he, h.2, Nat.eq_of_beq_eq_true h.1⟩
  · cases h
theorem look_mem {k : Nat} {v : AV} : ∀ {tm : List (Nat × AV)}, look tm k = some v → (k, v) ∈ tm
  | [], h => by cases h
  | (q, x) :: r, h => by
    rw [look_cons] at h
    split at h
    · rename_i hq; injection h with h; subst hq; subst h; exact List.mem_cons_self ..
    · exact List.mem_cons_of_mem _ (look_mem h)
structure DrawF (m : Nat) (l : List Oper) : Prop where
  guard : ∀ (i : Nat) (o : Oper), m ≤ i → l[i]? = some o → o.guard = none
  back : ∀ (i : Nat) (o : Oper), l[i]? = some o → ∀ e ∈ o.after, Region.binds .any e = true → e.on < i
  once : ∀ (i j : Nat) (d : Nat), dstAt l i = some d → dstAt l j = some d → i = j
  tail : ∀ i, m ≤ i → i < l.length → ∀ j, j < i → edgeB l i j = true
theorem drawOk_spec {m : Nat} {l : List Oper} (h : drawOk m l = true) : DrawF m l := by
  unfold drawOk at h
  simp only [Bool.and_eq_true] at h
  obtain ⟨h1, h2⟩ := h
  rw [List.all_eq_true] at h1 h2
  have key : ∀ (i : Nat) (o : Oper), l[i]? = some o → (o, i) ∈ l.zipIdx := by
    intro i o ho
    rw [List.mem_zipIdx_iff_getElem?]; exact ho
  refine ⟨fun i o hmi ho => ?_, fun i o ho e he hb => ?_, fun i j d hi hj => ?_, fun i hm hi j hj => ?_⟩
  · have := h1 _ (key i o ho)
    simp only [Bool.and_eq_true, Bool.or_eq_true] at this
    obtain ⟨⟨g | g, _⟩, _⟩ := this
    · simp [Nat.blt] at g; omega
    split at g
    · assumption
    · cases g
  · have := h1 _ (key i o ho)
    simp only [Bool.and_eq_true] at this
    obtain ⟨⟨_, g⟩, _⟩ := this
    rw [List.all_eq_true] at g
    have := g e (by simpa using he)
    rw [hb] at this
    simp [Nat.blt] at this
    omega
  · unfold dstAt at hi hj
    obtain ⟨o, ho, hd⟩ := Option.bind_eq_some_iff.1 hi
    obtain ⟨o', ho', hd'⟩ := Option.bind_eq_some_iff.1 hj
    have := h1 _ (key i o ho)
    simp only [Bool.and_eq_true] at this
    obtain ⟨_, g⟩ := this
    rw [hd] at g
    simp only at g
    rw [List.all_eq_true] at g
    have := g _ (key j o' ho')
    rw [hd'] at this
    simp only [Bool.or_eq_true] at this
    rcases this with this | this
    · exact Nat.eq_of_beq_eq_true this
    · simp at this
  · have := h2 i (by simpa using hi)
    simp only [Bool.or_eq_true] at this
    rcases this with this | this
    · simp [Nat.blt] at this; omega
    · rw [List.all_eq_true] at this
      exact this j (by simpa using hj)
section
variable {P : Program} {ρ : Option Nat} {Q : Exit → AS → Prop} {σ : AS} {ops : Array Oper} {l : List Oper}
theorem listed_set {listed : Array Bool} {i j : Nat} (hi : i < listed.size) : (listed.setIfInBounds i true).getD j false = if i = j then true else listed.getD j false := by
  simp only [Array.getD_eq_getD_getElem?, Array.getElem?_setIfInBounds]
  split
  · rename_i h; subst h; simp [hi]
  · rfl
theorem any_of_seq (g : G) {m : Nat} (hl : ops.toList = l) (hd : DrawF m l) : ∀ (f k : Nat) (listed : Array Bool) (a : Act) (w : World), m ≤ k → k + f = ops.size → listed.size = ops.size → (∀ j, listed.getD j false = decide (j < k)) →
    wpOpsIn (WF ρ) 0 P ops (CQ g Q) (List.range' k f) a w → wpAnyIn (WF ρ) 0 P .any ops (CQ g Q) f listed a w := by
  have hsize : ops.size = l.length := by rw [← hl]; simp
  have hget : ∀ i, ops[i]? = l[i]? := fun i => by rw [← hl, Array.getElem?_toList]
  have hready : ∀ k listed, m ≤ k → listed.size = ops.size → (∀ j, listed.getD j false = decide (j < k)) → ∀ i ∈ Region.ready .any ops listed, i = k := by
    intro k listed hmk hsz hlist i hi
    obtain ⟨h1, o, ho, h2⟩ := mem_ready.1 hi
    have hilt : i < ops.size := (Array.getElem?_eq_some_iff.1 ho).1
    have hik : ¬ i < k := by
      intro h
      have h3 := hlist i
      rw [decide_eq_true h] at h3
      rw [Array.getD_eq_getD_getElem?, Array.getElem?_eq_getElem (by omega)] at h1 h3
      simp at h1 h3
      rw [h1] at h3; cases h3
    rcases Nat.lt_or_ge k i with hgt | hle
    · obtain ⟨o', ho', e, he, hb, hon⟩ := edgeB_spec (hd.tail i (by omega) (by omega) k hgt)
      rw [hget] at ho
      rw [ho] at ho'
      injection ho' with ho'
      subst ho'
      have := h2 e he hb
      rw [hon, hlist k] at this
      simp at this
    · omega
  intro f
  induction f with
  | zero =>
    intro k listed a w hmk hkf hsz hlist h
    refine ⟨?_, h⟩
    apply List.eq_nil_iff_forall_not_mem.2
    intro i hi
    have := hready k listed hmk hsz hlist i hi
    obtain ⟨h1, o, ho, h2⟩ := mem_ready.1 hi
    have hilt : i < ops.size := (Array.getElem?_eq_some_iff.1 ho).1
    omega
  | succ f ih =>
    intro k listed a w hmk hkf hsz hlist h
    have hk : k < ops.size := by omega
    have hkr : k ∈ Region.ready .any ops listed := by
      refine mem_ready.2 ⟨?_, _, Array.getElem?_eq_getElem hk, fun e he hb => ?_⟩
      · have := hlist k
        rw [Array.getD_eq_getD_getElem?, Array.getElem?_eq_getElem (by omega)] at this ⊢
        simpa using this
      · have := hd.back k _ (by rw [← hget]; exact Array.getElem?_eq_getElem hk) e he hb
        rw [hlist]; simpa using this
    refine ⟨fun h0 => (by rw [h0] at hkr; cases hkr), fun i hi => ?_⟩
    obtain rfl := hready k listed hmk hsz hlist i hi
    rw [List.range'_succ, wpOpsIn_cons] at h
    refine wpOpIn_mono (fun a' w' h' => ?_) h
    exact ih (i + 1) _ a' w' (by omega) (by omega) (by simpa using hsz) (fun j => by
      rw [listed_set (by omega), hlist]
      split
      · rename_i e; subst e; simp
      · rename_i e
        by_cases c : j < i
        · simp [c]; omega
        · simp [c]; omega) h'
theorem AW_region_draw {id : Nat} (m : Nat) (vals : List AV) (tm' : List (Nat × AV)) (hl : ops.toList = l) (hm : P.follows .mixedOrders = true) (hok : drawOk m l = true) (hml : m ≤ l.length)
    (hdst : ∀ i o d, l[i]? = some o → i < m → o.dst = some d → d < σ.n)
    (steps : ∀ i o, l[i]? = some o → i < m → ∃ tm v, vals[i]? = some v ∧ (∀ p ∈ tm, NeedB l σ.tm vals i p) ∧ StepB P ρ l o { σ with tm := tm } v)
    (hknow : ∀ k v, look tm' k = some v → KnowB l σ.tm m vals (k, v)) (k : AL P ρ ops (l.drop m) Q { σ with tm := tm' }) : AW P ρ (.region id ops true) Q σ := by
  intro g I a w hs0
  have hd := drawOk_spec hok
  have hsize : ops.size = l.length := by rw [← hl]; simp
  have hget : ∀ i, ops[i]? = l[i]? := fun i => by rw [← hl, Array.getElem?_toList]
  refine wpIn_region_any hm ?_
  -- what is known while the head is under way
  have key : ∀ (f : Nat) (listed : Array Bool) (I : Imm) (a : Act) (w : World), listed.size = ops.size → (listed.toList.filter (fun b => !b)).length = f →
      SR g I { σ with tm := [] } a w → (∀ k v, notDst l k = true → look σ.tm k = some v → VR I v (a.tmps.getD k undef)) →
      (∀ j d v, listed.getD j false = true → j < m → dstAt l j = some d → vals[j]? = some v → VR I v (a.tmps.getD d undef)) → (∀ j, m ≤ j → listed.getD j false = false) →
      wpAnyIn (WF ρ) 0 P .any ops (CQ g Q) f listed a w := by
    intro f
    induction f with
    | zero =>
      intro listed I a w hsz hf hs hold hnew htail
      have hall : ∀ j, j < listed.size → listed.getD j false = true := by
        intro j hj
        have h0 := List.eq_nil_of_length_eq_zero hf
        have := List.filter_eq_nil_iff.1 h0 listed[j] (by simp)
        simp only [Bool.not_eq_true', Bool.not_eq_false] at this
        rw [Array.getD_eq_getD_getElem?, Array.getElem?_eq_getElem hj]
        simpa using this
      have hmn : m = ops.size := by
        rcases Nat.lt_or_ge m ops.size with h | h
        · have := hall m (by omega)
          rw [htail m (Nat.le_refl _)] at this; cases this
        · omega
      have hslot : ∀ k v, look tm' k = some v → VR I v (a.tmps.getD k undef) := by
        intro k v e
        rcases hknow k v e with ⟨j, h1, h2, h3⟩ | ⟨h1, h2⟩
        · exact hnew j k v (hall j (by omega)) h1 h2 h3
        · exact hold k v h1 h2
      have hmid : SR g I { σ with tm := tm' } a w := ⟨hs.le, hs.below, hs.base, hs.wr, hs.size, hslot, ⟨hs.marks.defs, hs.marks.nodup, hs.marks.here, hs.marks.keep, hs.marks.apart⟩⟩
      have hq := k g I a w (List.range' m 0) (by
        have : l.drop m = [] := List.drop_of_length_le (by omega)
        rw [this]; rfl) hmid
      exact any_of_seq g hl hd 0 m listed a w (Nat.le_refl _) (by omega) hsz (fun j => by
        rcases Nat.lt_or_ge j listed.size with h | h
        · rw [hall j h]; simp; omega
        · rw [Array.getD_eq_getD_getElem?, Array.getElem?_eq_none h]; simp; omega) hq
    | succ f ih =>
      intro listed I a w hsz hf hs hold hnew htail
      -- the least that is not listed may come
      have hex : ∃ i, i < ops.size ∧ listed.getD i false = false := by
        have h0 : listed.toList.filter (fun b => !b) ≠ [] := by intro h; rw [h] at hf; simp at hf
        obtain ⟨b, hb⟩ := List.exists_mem_of_ne_nil _ h0
        rw [List.mem_filter] at hb
        obtain ⟨i, hi, e⟩ := List.mem_iff_getElem.1 hb.1
        refine ⟨i, by rw [← hsz]; simpa using hi, ?_⟩
        rw [Array.getD_eq_getD_getElem?, ← Array.getElem?_toList, List.getElem?_eq_getElem hi, e]
        simpa using hb.2
      obtain ⟨i0, ⟨hi0, hi0f⟩, hmin⟩ := exists_least hex
      have hr0 : i0 ∈ Region.ready .any ops listed := by
        refine mem_ready.2 ⟨?_, _, Array.getElem?_eq_getElem hi0, fun e he hb => ?_⟩
        · rw [Array.getD_eq_getD_getElem?, Array.getElem?_eq_getElem (by omega)] at hi0f ⊢
          simpa using hi0f
        · have hlt := hd.back i0 _ (by rw [← hget]; exact Array.getElem?_eq_getElem hi0) e he hb
          cases hc : listed.getD e.on false with
          | true => rfl
          | false => have := hmin e.on ⟨by omega, hc⟩; omega
      refine ⟨fun h => (by rw [h] at hr0; cases hr0), fun i hi => ?_⟩
      obtain ⟨h1, o, ho, h2⟩ := mem_ready.1 hi
      have hilt : i < ops.size := (Array.getElem?_eq_some_iff.1 ho).1
      have hif : listed.getD i false = false := by
        rw [Array.getD_eq_getD_getElem?, Array.getElem?_eq_getElem (by omega)] at h1 ⊢
        simpa using h1
      rw [hget] at ho
      by_cases him : i < m
      · -- of the head
        obtain ⟨tm, v, hv, hneed, hpo⟩ := steps i o ho him
        have hslot : ∀ k v, look tm k = some v → VR I v (a.tmps.getD k undef) := by
          intro k u e
          rcases hneed (k, u) (look_mem e) with ⟨j, e1, e2, e3⟩ | ⟨e1, e2⟩
          · obtain ⟨o', ho', ed, hed, hb, hon⟩ := edgeB_spec e1
            rw [ho] at ho'
            injection ho' with ho'
            subst ho'
            have hlj := h2 ed hed hb
            rw [hon] at hlj
            have hji := hd.back i o ho ed hed hb
            exact hnew j k u hlj (by omega) e2 e3
          · exact hold k u e1 e2
        have hsi : SR g I { σ with tm := tm } a w := ⟨hs.le, hs.below, hs.base, hs.wr, hs.size, hslot, ⟨hs.marks.defs, hs.marks.nodup, hs.marks.here, hs.marks.keep, hs.marks.apart⟩⟩
        suffices hcont : ∀ I' u w', I.le I' → VR I' v u → SR g I' { σ with tm := tm } a w' → wpAnyIn (WF ρ) 0 P .any ops (CQ g Q) f (listed.setIfInBounds i true) (a.put o.dst u) w' by
          have hy : ∀ yes, GuardB l tm o yes → Region.wanted o (yielded ops a.tmps) = yes := by
            intro yes hG
            unfold GuardB at hG
            unfold Region.wanted
            split at hG
            · rename_i e; rw [e, hG]
            · rename_i j want e
              obtain ⟨t, hjt, hlt⟩ := hG
              obtain ⟨o', ho', ht⟩ := Option.bind_eq_some_iff.1 hjt
              rw [e]
              rcases hlt with ⟨b, hlt, hbw⟩ | ⟨hlt, rfl⟩
              · have hv := hslot t _ hlt
                have hlt' : t < a.tmps.size := by
                  rcases Nat.lt_or_ge t a.tmps.size with h | h
                  · exact h
                  · rw [Array.getD_eq_getD_getElem?, Array.getElem?_eq_none h] at hv
                    cases hv
                have hyl : yielded ops a.tmps j = some b := by
                  simp only [yielded, hget, ho', Option.bind_some, ht]
                  rw [Array.getD_eq_getD_getElem?, Array.getElem?_eq_getElem hlt'] at hv
                  rw [Array.getElem?_eq_getElem hlt']
                  simp only [Option.getD_some] at hv
                  generalize a.tmps[t] = u at hv
                  cases hv
                  rfl
                simp only [hyl]
                simpa using hbw
              · have hv := hslot t _ hlt
                have hu : a.tmps.getD t undef = .tuple #[] := by
                  generalize a.tmps.getD t undef = u at hv
                  cases hv with
                  | tup _ us hl _ => exact congrArg Value.tuple (Array.eq_empty_of_size_eq_zero hl)
                have hyl : yielded ops a.tmps j = none := by
                  simp only [yielded, hget, ho', Option.bind_some, ht]
                  rw [Array.getD_eq_getD_getElem?] at hu
                  cases hq : a.tmps[t]? with
                  | none => rfl
                  | some u => rw [hq] at hu; simp at hu; subst hu; rfl
                simp only [hyl]
                cases want <;> rfl
          simp only [wpOpIn, hget, ho]
          rcases hpo with ⟨hG, hpo⟩ | ⟨hG, rfl⟩
          · rw [if_pos (hy true hG)]
            refine wpIn_oper_mono (hpo g I a w hsi) ?_ (fun _ _ _ h => h.elim)
            rintro a' w' ⟨I', u, hle, rfl, hvu, hs'⟩
            exact hcont I' u w' hle hvu hs'
          · rw [if_neg (by rw [hy false hG]; simp)]
            exact ⟨fun _ _ => trivial, hcont I undef w (.refl _) (.tup [] #[] rfl (fun i a h => by simp at h)) hsi⟩
        intro I' u w' hle hvu hs'
        have hdi : dstAt l i = o.dst := by simp [dstAt, ho]
        refine ih (listed.setIfInBounds i true) I' (a.put o.dst u) w' (by simpa using hsz) ?_ ?_ ?_ ?_ ?_
        · -- one fewer is left
          have hset : ∀ (bs : List Bool) (i : Nat), bs[i]? = some false → ((bs.set i true).filter (fun b => !b)).length + 1 = (bs.filter (fun b => !b)).length := by
            intro bs
            induction bs with
            | nil => intro i h; simp at h
            | cons b bs ih =>
              intro i h
              cases i with
              | zero => simp at h; subst h; simp
              | succ i =>
                have := ih i (by simpa using h)
                cases b <;> simp at this ⊢ <;> omega
          have hi' : listed.toList[i]? = some false := by
            rw [Array.getElem?_toList]
            rw [Array.getD_eq_getD_getElem?, Array.getElem?_eq_getElem (by omega)] at hif
            rw [Array.getElem?_eq_getElem (by omega)]
            simpa using hif
          have := hset listed.toList i hi'
          rw [Array.toList_setIfInBounds]
          omega
        · cases hdst' : o.dst with
          | none => exact ⟨hs'.le, hs'.below, hs'.base, hs'.wr, hs'.size, fun k v e => (by cases e), ⟨hs'.marks.defs, hs'.marks.nodup, hs'.marks.here, hs'.marks.keep, hs'.marks.apart⟩⟩
          | some d =>
            refine ⟨hs'.le, hs'.below, hs'.base, hs'.wr, ?_, fun k v e => (by cases e), ⟨hs'.marks.defs, hs'.marks.nodup, hs'.marks.here, hs'.marks.keep, hs'.marks.apart⟩⟩
            have := hs'.size
            simpa [Act.put] using this
        · intro k x hk hx
          have hne := notDst_spec hk ho
          have := (hold k x hk hx).mono hle
          cases hdst' : o.dst with
          | none => exact this
          | some d =>
            have hdk : d ≠ k := fun e => hne (by rw [hdst', e])
            simpa [Act.put, Array.getD_eq_getD_getElem?, Array.getElem?_setIfInBounds, hdk] using this
        · intro j d x hj hjm hdj hxj
          rw [listed_set (by omega)] at hj
          by_cases hij : i = j
          · subst hij
            rw [hv] at hxj
            injection hxj with hxj
            subst hxj
            rw [hdi] at hdj
            have hdn := hdst i o d ho him hdj
            have hsz' : d < a.tmps.size := by rw [hs.size]; exact hdn
            simpa [hdj, Act.put, Array.getD_eq_getD_getElem?, Array.getElem?_setIfInBounds, hsz'] using hvu
          · rw [if_neg hij] at hj
            have := (hnew j d x hj hjm hdj hxj).mono hle
            cases hdst' : o.dst with
            | none => exact this
            | some d' =>
              have hdk : d' ≠ d := fun e => hij (hd.once i j d (by rw [hdi, hdst', e]) hdj)
              simpa [Act.put, Array.getD_eq_getD_getElem?, Array.getElem?_setIfInBounds, hdk] using this
        · intro j hj
          rw [listed_set (by omega), if_neg (by omega)]
          exact htail j hj
      · -- of the tail: then the head is over
        have hbefore : ∀ j, j < i → listed.getD j false = true := by
          intro j hj
          obtain ⟨o', ho', e, he, hb, hon⟩ := edgeB_spec (hd.tail i (by omega) (by omega) j hj)
          rw [ho] at ho'
          injection ho' with ho'
          subst ho'
          have := h2 e he hb
          rwa [hon] at this
        have him' : i = m := by
          rcases Nat.lt_or_ge m i with h | h
          · have := hbefore m h
            rw [htail m (Nat.le_refl _)] at this; cases this
          · omega
        subst him'
        have hlist : ∀ j, listed.getD j false = decide (j < i) := by
          intro j
          by_cases c : j < i
          · rw [hbefore j c]; simp [c]
          · rw [htail j (by omega)]; simp [c]
        have hslot : ∀ k v, look tm' k = some v → VR I v (a.tmps.getD k undef) := by
          intro k v e
          rcases hknow k v e with ⟨j, e1, e2, e3⟩ | ⟨e1, e2⟩
          · exact hnew j k v (hbefore j e1) e1 e2 e3
          · exact hold k v e1 e2
        have hmid : SR g I { σ with tm := tm' } a w := ⟨hs.le, hs.below, hs.base, hs.wr, hs.size, hslot, ⟨hs.marks.defs, hs.marks.nodup, hs.marks.here, hs.marks.keep, hs.marks.apart⟩⟩
        have hcount : f + 1 = ops.size - i := by
          have : ∀ (bs : List Bool) (i : Nat), i ≤ bs.length → (∀ j, bs[j]?.getD false = decide (j < i)) → (bs.filter (fun b => !b)).length = bs.length - i := by
            intro bs
            induction bs with
            | nil => intro i _ _; simp
            | cons b bs ih =>
              intro i hi h
              cases i with
              | zero =>
                have h0 := h 0
                simp at h0
                subst h0
                have := ih 0 (by omega) (fun j => by have := h (j + 1); simpa using this)
                simp at this ⊢
                omega
              | succ i =>
                have h0 := h 0
                simp at h0
                subst h0
                have := ih i (by simpa using hi) (fun j => by have := h (j + 1); simpa using this)
                simp at this ⊢
                omega
          have h3 := this listed.toList i (by simp; omega) (fun j => by rw [Array.getElem?_toList, ← Array.getD_eq_getD_getElem?]; exact hlist j)
          rw [hf] at h3
          simpa [hsz] using h3
        have hq := k g I a w (List.range' i (ops.size - i)) (by
          apply List.ext_getElem
          · simp [hsize]
          · intro j h3 h4
            simp at h3 h4
            simp [hget, List.getElem?_eq_getElem (show i + j < l.length by omega)]) hmid
        have hany := any_of_seq g hl hd (f + 1) i listed a w (Nat.le_refl _) (by omega) hsz hlist (by rw [hcount]; exact hq)
        exact hany.2 i hi
  refine key ops.size (Array.replicate ops.size false) I a w.drew (by simp) (by simp) ?_ ?_ ?_ ?_
  · have := hs0.drew
    exact ⟨this.le, this.below, this.base, this.wr, this.size, fun k v e => (by cases e), ⟨this.marks.defs, this.marks.nodup, this.marks.here, this.marks.keep, this.marks.apart⟩⟩
  · exact fun k v _ h => hs0.slot k v h
  · intro j d v hj
    simp [Array.getD_eq_getD_getElem?, Array.getElem?_replicate] at hj
    split at hj <;> simp at hj
  · intro j _
    simp [Array.getD_eq_getD_getElem?, Array.getElem?_replicate]
    split <;> simp
end
end Go.AM
end
section
set_option linter.unusedVariables false
set_option linter.unusedSimpArgs false
namespace Go.AM
open Go.RowKit
def yv (l : Nat) : AV := .fn (.yield l) [] []
def bT : AV := .lit (.bool true)
def bF : AV := .lit (.bool false)
def AIter (P : Program) (it : AV) (xs : List (List AV)) : Prop :=
  ∀ (y : AV) (J Jx : Nat → Heap → Prop),
    (∀ i x h, xs[i]? = some x → J i h → AFn P y x h (fun a h' => (a = bT ∧ J (i + 1) h') ∨ (a = bF ∧ Jx (i + 1) h'))) →
    (∀ i h h2, J i h → h.le h2 → J i h2) → ∀ h, J 0 h → AFn P it [y] h (fun a h' => a = .tup [] ∧ (J xs.length h' ∨ ∃ i, i ≤ xs.length ∧ Jx i h'))
section
variable {g : G} {I : Imm} {σ : AS} {a : Act} {w : World}
theorem heap_putObj (w : World) (b : Nat) (o : Obj) {k : Nat} (h : k ≠ b) : (w.putObj b o).heap[k]? = w.heap[k]? := by
  show (w.heap.setIfInBounds b o)[k]? = _
  rw [Array.getElem?_setIfInBounds, if_neg (Ne.symm h)]
theorem SR.setLoop (hs : SR g I σ a w) (l : Nat) {r r' : Loop} {tm : List (Nat × AV)} (hl : σ.h l = some (.loop r tm)) (hsame : Loop.same r r') : SR g I (σ.setH (σ.h.upd l (some (.loop r' tm)))) a (w.putObj l (.loop r')) := by
  obtain ⟨hbase, hw, hslots⟩ := hs.wr.obj l _ hl
  have hlt : l < w.heap.size := (Array.getElem?_eq_some_iff.1 hw).1
  refine ⟨hs.le, hs.below.trans ⟨⟨rfl, rfl, rfl, by simp [World.putObj], fun k hk => heap_putObj w l _ (by omega)⟩, Nat.le_refl _⟩, hs.base, ⟨fun b x v k => ?_, fun b ents k => ?_, fun b ob k => ?_, fun b c k => ?_⟩, hs.size, hs.slot, ⟨hs.marks.defs, hs.marks.nodup, fun q hq => ?_, fun b o hb hlk => ?_, hs.marks.apart⟩⟩
  · have h1 := hs.wr.cell b x v k
    have hne : b ≠ l := fun e => by subst e; simp [World.cell?, hw] at h1
    exact (World.cell?_of_block (w := w) (a := ⟨b, x, none⟩) (heap_putObj w l _ hne)).trans h1
  · obtain ⟨clock, h1⟩ := hs.wr.map b ents k
    have hne : b ≠ l := fun e => by subst e; rw [hw] at h1; cases h1
    exact ⟨clock, (heap_putObj w l _ hne).trans h1⟩
  · by_cases hb : b = l
    · subst hb
      have : AObj.loop r' tm = ob := by simpa [AS.setH] using k
      subst this
      refine ⟨hbase, ?_, fun k v e => by rw [← hsame.2.1]; exact hslots k v e⟩
      show (w.heap.setIfInBounds b _)[b]? = _
      simp [hlt]
    · obtain ⟨k1, k2⟩ := hs.wr.obj b ob (by simpa [AS.setH, Heap.upd, hb] using k)
      exact ⟨k1, k2.keep (.refl _) rfl rfl (heap_putObj w l _ hb)⟩
  · have := hs.wr.capLt b c k
    simpa [World.putObj] using this
  · have := hs.marks.here q hq
    have hne : q ≠ l := fun e => by rw [e, hl] at this; cases this
    simpa [AS.setH, Heap.upd, hne] using this
  · obtain ⟨o', h1, h2⟩ := hs.marks.keep b o hb hlk
    by_cases hbl : b = l
    · subst hbl
      rw [hl] at h1
      injection h1 with h1
      subst h1
      exact ⟨.loop r' tm, by simp [AS.setH], AObj.sim_trans h2 ⟨hsame, rfl⟩⟩
    · exact ⟨o', by simpa [AS.setH, Heap.upd, hbl] using h1, h2⟩
end
def setPs : List (Nat × AV) → List Nat → List AV → List (Nat × AV)
  | tm, p :: ps, x :: xs => setPs ((p, x) :: del p tm) ps xs
  | tm, _, _ => tm
theorem setPs_slot {I : Imm} {n : Nat} : ∀ (ps : List Nat) (xs : List AV) (us : List Value) (tm : List (Nat × AV)) (tmps : Array Value), tmps.size = n → (∀ k v, look tm k = some v → VR I v (tmps.getD k undef)) → xs.length = ps.length → us.length = ps.length → (∀ p ∈ ps, p < n) →
    (∀ (i : Nat) (x : AV) (u : Value), xs[i]? = some x → us[i]? = some u → VR I x u) →
    (∀ k v, look (setPs tm ps xs) k = some v → VR I v (((ps.zip us).foldl (fun (t : Array Value) (pu : Nat × Value) => t.setIfInBounds pu.1 pu.2) tmps).getD k undef)) ∧ ((ps.zip us).foldl (fun (t : Array Value) (pu : Nat × Value) => t.setIfInBounds pu.1 pu.2) tmps).size = n
  | [], xs, us, tm, tmps, hsz, hs, h1, h2, hp, hv => by
    obtain rfl := List.eq_nil_of_length_eq_zero h1
    exact ⟨by simpa [setPs] using hs, by simpa using hsz⟩
  | p :: ps, [], us, tm, tmps, hsz, hs, h1, h2, hp, hv => by simp at h1
  | p :: ps, x :: xs, [], tm, tmps, hsz, hs, h1, h2, hp, hv => by simp at h2
  | p :: ps, x :: xs, u :: us, tm, tmps, hsz, hs, h1, h2, hp, hv => by
    have hpn := hp p (List.mem_cons_self ..)
    refine setPs_slot ps xs us _ (tmps.setIfInBounds p u) (by simpa using hsz) ?_ (by simpa using h1) (by simpa using h2) (fun q hq => hp q (List.mem_cons_of_mem _ hq)) (fun i a b k1 k2 => hv (i + 1) a b (by simpa using k1) (by simpa using k2))
    intro k v e
    rw [look_cons] at e
    by_cases hk : p = k
    · rw [if_pos hk] at e
      injection e with e
      subst hk; subst e
      have := hv 0 x u rfl rfl
      simpa [Array.getD_eq_getD_getElem?, Array.getElem?_setIfInBounds, hsz, hpn] using this
    · rw [if_neg hk, look_del_ne (by omega)] at e
      have := hs k v e
      simpa [Array.getD_eq_getD_getElem?, Array.getElem?_setIfInBounds, hk] using this
def codeOf : Exit → Option Code
  | .ret => some .ret
  | .exit id => some (.exit id)
  | .goto t => some (.goto t)
  | _ => none
section
variable {P : Program} {Q : Exit → AS → Prop} {σ : AS}
def roundQ (h0 : Heap) (J1 : Heap → Prop) (Jx : Exit → Heap → Prop) : Exit → AS → Prop
  | .normal, σ => J1 σ.h ∧ σ.h0 = h0
  | .ret, σ => Jx .ret σ.h ∧ σ.h0 = h0
  | .exit id, σ => Jx (.exit id) σ.h ∧ σ.h0 = h0
  | .goto t, σ => Jx (.goto t) σ.h ∧ σ.h0 = h0
  | _, _ => False
theorem LockKept.upd_loop {h : Heap} {l : Nat} {r r' : Loop} {tm : List (Nat × AV)} (hl : h l = some (.loop r tm)) (hs : Loop.same r r') : LockKept h (h.upd l (some (.loop r' tm))) := fun b o e hk => by
  by_cases hb : b = l
  · subst hb
    rw [hl] at e; injection e with e; subst e
    exact ⟨.loop r' tm, by simp, (⟨hs, rfl⟩ : Loop.same r r' ∧ tm = tm)⟩
  · exact ⟨o, by simpa [Heap.upd, hb] using e, AObj.sim_refl hk⟩
def Steady (l : Nat) (h h2 : Heap) : Prop := ∀ b o, h b = some o → (b = l ∧ ∃ r tm, o = .loop r tm) ∨ h2 b = some o
theorem Steady.le {l : Nat} {h0 h h2 : Heap} (hl : h0 l = none) (k : h0.le h) (s : Steady l h h2) : h0.le h2 := fun b o e => by
  rcases s b o (k b o e) with ⟨rfl, _⟩ | h
  · rw [hl] at e; cases e
  · exact h
theorem Steady.at {l b : Nat} {h h2 : Heap} {o : AObj} (s : Steady l h h2) (e : h b = some o) (hn : o.locked = false) : h2 b = some o := by
  rcases s b o e with ⟨_, r, tm, rfl⟩ | h
  · cases hn
  · exact h
theorem Steady.of_le {l : Nat} {h h2 : Heap} (k : h.le h2) : Steady l h h2 := fun b o e => .inr (k b o e)
theorem Steady.upd {l : Nat} {h : Heap} {r : Loop} {tm : List (Nat × AV)} (hl : h l = some (.loop r tm)) (o : Option AObj) : Steady l h (h.upd l o) := fun b x e => by
  by_cases hb : b = l
  · subst hb; rw [hl] at e; injection e with e; exact .inl ⟨rfl, r, tm, e.symm⟩
  · exact .inr (by simpa [Heap.upd, hb] using e)
theorem AW_rangeFunc {gop : Operand} {ps : Array Nat} {assign body : Code} {f : Nat} {fn : Func} {fi ca : List AV} {xs : List (List AV)} (hit : ev σ.tm gop = some (.fn (.func f) fi ca)) (hf : P.funcs[f]? = some fn) (hb : fn.body.isSome = true) (hname : (fn.name == "runtime.NumGoroutine") = false)
    (hI : AIter P (.fn (.func f) fi ca) xs) (J : Nat → Heap → Prop) (Jx : Exit → Nat → Heap → Prop) (A : Nat → List (Nat × AV) → Prop) (hps : ∀ p ∈ ps.toList, p < σ.n) (hxl : ∀ x ∈ xs, x.length = ps.size)
    (h0 : J 0 σ.h)
    (hJ : ∀ l, σ.h l = none → ∀ i h h2, J i h → Steady l h h2 → J i h2)
    (hJx : ∀ l, σ.h l = none → ∀ e i h h2, Jx e i h → Steady l h h2 → Jx e i h2)
    (hassign : ∀ l i x h, xs[i]? = some x → J i h → AW P (some l) assign (sq (fun σ1 => σ1.n = σ.n ∧ σ1.ms = [] ∧ σ1.h0 = h ∧ h.le σ1.h ∧ J i σ1.h ∧ A i σ1.tm) (fun _ _ => False)) ⟨σ.n, setPs σ.tm ps.toList x, h, [], h⟩)
    (hbody : ∀ l i x h tm, xs[i]? = some x → J i h → A i tm → AW P (some l) body (roundQ h (J (i + 1)) (fun e => Jx e (i + 1))) ⟨σ.n, tm, h, [], h⟩)
    (hdone : ∀ h r, σ.h r = none → h r = some .mark → J xs.length h → Q .normal { σ with h := h, ms := r :: σ.ms })
    (hstop : ∀ e i h r, σ.h r = none → h r = some .mark → (codeOf e).isSome = true → Jx e i h → Q e { σ with h := h, ms := r :: σ.ms }) :
    AW P none (.rangeFunc gop ps assign body) Q σ := by
  intro g I a w hs
  refine wpIn_rangeFunc fun fid _ => ?_
  -- the two blocks
  let r : Nat := w.heap.size
  let l : Nat := w.heap.size + 1
  let rec0 : Loop := { state := .ready, pending := none, fn := fid, tmps := a.tmps, params := ps, assign, body, defers := w.heap.size }
  let w1 : World := (w.alloc (.deferred (some []))).alloc (.loop rec0)
  have henter := run_enterLoop_outer (P := P) (w := w) fid a.tmps ps assign body
  have hr0 : σ.h r = none := h_new hs
  have s1 := (hs.alloc (.deferred (some []))).setObj r .mark hs.sz (heap_alloc_new w _) (fun o e => by rw [hr0] at e; cases e)
  have hsz1 : (w.alloc (.deferred (some []))).heap.size = l := by simp [l]
  have hl0 : (σ.h.upd r (some .mark)) l = none := by
    have := h_new s1
    rw [hsz1] at this
    exact this
  have hne : l ≠ r := by show w.heap.size + 1 ≠ w.heap.size; omega
  have hl0' : σ.h l = none := by simpa [Heap.upd, hne] using hl0
  have hw1l : w1.heap[l]? = some (.loop rec0) := by
    have := heap_alloc_new (w.alloc (.deferred (some []))) (.loop rec0)
    rw [hsz1] at this
    exact this
  have hbl : g.base ≤ l := by have := hs.sz; show g.base ≤ w.heap.size + 1; omega
  have s2 := (s1.alloc (.loop rec0)).setObj l (.loop rec0 σ.tm) hbl ⟨hw1l, fun k v e => hs.slot k v e⟩ (fun o e => by rw [show (σ.setH (σ.h.upd r (some .mark))).h l = none from hl0] at e; cases e)
  let h1 : Heap := (σ.h.upd r (some .mark)).upd l (some (.loop rec0 σ.tm))
  have s2' : SR g I (σ.setH h1) a w1 := s2
  have h1l : h1 l = some (.loop rec0 σ.tm) := by simp [h1]
  have h1r : h1 r = some .mark := by simp [h1, Heap.upd, Ne.symm hne]
  have h1le : σ.h.le h1 := ((Heap.le.refl σ.h).upd hr0 _).upd hl0 _
  -- the call's value
  have hv := hs.ev hit
  generalize hg : a.eval gop = gv at hv
  cases hv with
  | fn _ _ _ vf vc hvf hvc k1 k2 =>
    obtain ⟨body', hb'⟩ := Option.isSome_iff_exists.1 hb
    have hname' : ¬ fn.name = "runtime.NumGoroutine" := by simpa using hname
    -- the contract of yield
    let Jt : Nat → Heap → Prop := fun i h => J i h ∧ h l = some (.loop rec0 σ.tm)
    let Jtx : Nat → Heap → Prop := fun i h => ∃ e c, codeOf e = some c ∧ Jx e i h ∧ h l = some (.loop { rec0 with state := .done, pending := some c } σ.tm)
    have hyield : ∀ i x h, xs[i]? = some x → Jt i h → AFn P (yv l) x h (fun a h' => (a = bT ∧ Jt (i + 1) h') ∨ (a = bF ∧ Jtx (i + 1) h')) := by
      intro i x h hx ⟨hj, hl⟩ base I2 w2 fv vs hb2 hwr hfv hvs
      unfold yv at hfv
      cases hfv with
      | fn _ _ _ yf yc hyf hyc _ _ =>
        have hyf' : yf = #[] := Array.eq_empty_of_size_eq_zero hyf
        have hyc' : yc = #[] := Array.eq_empty_of_size_eq_zero hyc
        subst hyf' hyc'
        obtain ⟨hlb, hw2, hslots⟩ := hwr.obj l _ hl
        have hxlen : x.length = ps.size := hxl x (List.mem_of_getElem? hx)
        refine ⟨{ target := .fn (.yield l) #[], args := vs }, fun w => by simp [Deferred.ofValue], ?_⟩
        have hrun : (invoke (.fn (.yield l) #[]) vs).run P w2 = .ok (.round l fid ((ps.zip vs).foldl (fun tmps (t, a) => tmps.setIfInBounds t a) a.tmps) assign body) w2 := by
          show (Instr.yield l vs).run P w2 = _
          rw [run_yield (r := rec0) hw2 (by rw [hvs.1, hxlen])]
        rw [hrun]
        -- the round's slots
        obtain ⟨t1, t2⟩ := setPs_slot (I := I2) (n := σ.n) ps.toList x vs.toList σ.tm a.tmps hs.size (fun k v e => hslots k v e) (by simpa using hxlen) (by rw [Array.length_toList, hvs.1, hxlen]; simp) hps
          (fun i x' u e1 e2 => by
            have := hvs.2 i x' e1
            rw [Array.getD_eq_getD_getElem?, ← Array.getElem?_toList, e2] at this
            simpa using this)
        have hfold : (ps.zip vs).foldl (fun (tmps : Array Value) (x : Nat × Value) => tmps.setIfInBounds x.1 x.2) a.tmps = (ps.toList.zip vs.toList).foldl (fun (t : Array Value) (pu : Nat × Value) => t.setIfInBounds pu.1 pu.2) a.tmps := by
          rw [← Array.foldl_toList, Array.toList_zip]
        have sr : SR ⟨base, w2, I2⟩ I2 ⟨σ.n, setPs σ.tm ps.toList x, h, [], h⟩ { tmps := (ps.zip vs).foldl (fun (tmps : Array Value) (x : Nat × Value) => tmps.setIfInBounds x.1 x.2) a.tmps, defers := [] } w2 :=
          ⟨.refl _, .refl _ _, hb2, hwr, by rw [hfold]; exact t2, fun k v e => by rw [hfold]; exact t1 k v e, ⟨rfl, by simp, by simp, .refl _, by simp⟩⟩
        refine roundIn_of_wpIn trivial ?_
        have ha := hassign l i x h hx hj ⟨base, w2, I2⟩ I2 _ w2 sr
        refine wpIn_mono ha ?_
        rintro e a3 w3 ⟨I3, σ3, s3, hq⟩
        cases e with
        | normal =>
          obtain ⟨q1, q2, q3, q4, q5, q6⟩ := hq
          obtain ⟨n3, tm3, h3, ms3, h03⟩ := σ3
          simp only at q1 q2 q3 q4 q5 q6
          have q3' := q3.symm
          subst q1 q2 q3'
          have hl3 : h3 l = some (.loop rec0 σ.tm) := q4 l _ hl
          have hw3 : w3.heap[l]? = some (.loop rec0) := (s3.wr.obj l _ hl3).2.1
          refine ⟨_, run_beginRound hw3 rfl, ?_⟩
          let recb : Loop := { rec0 with state := .busy }
          have hsame : Loop.same rec0 recb := ⟨rfl, rfl, rfl, rfl, rfl, rfl⟩
          have s4 := s3.setLoop l hl3 hsame
          let h4 : Heap := h3.upd l (some (.loop recb σ.tm))
          have h4l : h4 l = some (.loop recb σ.tm) := by simp [h4]
          have s4' : SR ⟨base, w2, I2⟩ I3 ⟨σ.n, tm3, h4, [], h4⟩ a3 (w3.putObj l (.loop recb)) :=
            ⟨s4.le, s4.below, s4.base, s4.wr, s4.size, s4.slot, ⟨s4.marks.defs, s4.marks.nodup, s4.marks.here, .refl _, by simp⟩⟩
          have hj4 : J i h4 := hJ l hl0' i h3 h4 q5 (.upd hl3 _)
          have hlk4 : LockKept h h4 := s3.marks.keep.trans (.upd_loop hl3 hsame)
          refine wpIn_mono (hbody l i x h4 tm3 hx hj4 q6 ⟨base, w2, I2⟩ I3 a3 _ s4') ?_
          rintro e a5 w5 ⟨I5, σ5, s5, hq5⟩
          have fin : σ5.h0 = h4 → ∀ (jump : Option Code) (R5 : Heap → Prop), R5 σ5.h → (∀ h h2, R5 h → Steady l h h2 → R5 h2) →
              ∃ v w', (Instr.endRound l jump).run P w5 = .ok v w' ∧ ∃ u, Ending.returned v = .returned u ∧ ∃ I' h', u = .bool jump.isNone ∧ I2.le I' ∧ WR base I' h' w' ∧ Blw base w2 w' ∧ LockKept h h' ∧ R5 h' ∧
                h' l = some (.loop { rec0 with state := if jump.isNone then .ready else .done, pending := jump } σ.tm) := by
            intro e5 jump R5 hR5 hst
            obtain ⟨ob, o1, o2⟩ := s5.marks.keep l _ (by rw [e5]; exact h4l) rfl
            cases ob with
            | loop r5 tm5 =>
              obtain ⟨osame, otm⟩ := o2
              subst otm
              have hw5 : w5.heap[l]? = some (.loop r5) := (s5.wr.obj l _ o1).2.1
              have hr5 : ({ r5 with state := if jump.isNone then .ready else .done, pending := jump } : Loop) = { rec0 with state := if jump.isNone then .ready else .done, pending := jump } := by
                obtain ⟨p1, p2, p3, p4, p5, p6⟩ := osame
                cases r5
                simp only [recb] at p1 p2 p3 p4 p5 p6
                simp only [← p1, ← p2, ← p3, ← p4, ← p5, ← p6]
              have s6 := s5.setLoop l o1 (r' := { r5 with state := if jump.isNone then .ready else .done, pending := jump }) ⟨rfl, rfl, rfl, rfl, rfl, rfl⟩
              refine ⟨_, _, run_endRound jump hw5, _, rfl, I5, σ5.h.upd l (some (.loop { r5 with state := if jump.isNone then .ready else .done, pending := jump } σ.tm)), rfl, s6.le, s6.wr, s6.below, ?_, hst _ _ hR5 (.upd o1 _), ?_⟩
              · have k5 : LockKept h4 σ5.h := e5 ▸ s5.marks.keep
                exact (hlk4.trans k5).trans (.upd_loop o1 ⟨rfl, rfl, rfl, rfl, rfl, rfl⟩)
              · rw [hr5]; simp
            | _ => exact o2.elim
          have stopQ : ∀ (e : Exit) (c : Code), codeOf e = some c → (Jx e (i + 1) σ5.h ∧ σ5.h0 = h4) → ∃ v w', (Instr.endRound l (some c)).run P w5 = .ok v w' ∧ ARes base I2 h w2 (fun a h' => (a = bT ∧ Jt (i + 1) h') ∨ (a = bF ∧ Jtx (i + 1) h')) (.returned v) w' := by
            intro e c hc ⟨z1, z2⟩
            obtain ⟨v, w', k1, u, k2, I', h', k3, k4, k5, k6, k7, k8, k9⟩ := fin z2 (some c) (Jx e (i + 1)) z1 (fun h h2 k s => hJx l hl0' e (i + 1) h h2 k s)
            refine ⟨v, w', k1, u, k2, I', bF, h', k4, k5, ?_, k6, k7, .inr ⟨rfl, e, c, hc, k8, k9⟩⟩
            rw [k3]; exact .lit _ rfl
          cases e with
          | normal =>
            obtain ⟨v, w', k1, u, k2, I', h', k3, k4, k5, k6, k7, k8, k9⟩ := fin hq5.2 none (J (i + 1)) hq5.1 (fun h h2 k s => hJ l hl0' (i + 1) h h2 k s)
            refine ⟨v, w', k1, u, k2, I', bT, h', k4, k5, ?_, k6, k7, .inl ⟨rfl, k8, k9⟩⟩
            rw [k3]; exact .lit _ rfl
          | ret => exact stopQ .ret .ret rfl hq5
          | exit id => exact stopQ (.exit id) (.exit id) rfl hq5
          | goto t => exact stopQ (.goto t) (.goto t) rfl hq5
          | panic ch => exact hq5.elim
          | outgrown => exact hq5.elim
        | exit id => exact hq.elim
        | goto t => exact hq.elim
        | ret => exact hq.elim
        | panic ch => exact hq.elim
        | outgrown => exact hq.elim
    have hcall := hI (yv l) Jt Jtx hyield (fun i h h2 ⟨k, kl⟩ hle => ⟨hJ l hl0' i h h2 k (.of_le hle), hle l _ kl⟩) h1 ⟨hJ l hl0' 0 σ.h h1 h0 (.of_le h1le), h1l⟩ g.base I w1 (.func (.func f) vf vc) #[.func (.yield l) #[] #[]] s2'.sz s2'.wr
      (.fn _ _ _ _ _ hvf hvc k1 k2) ⟨rfl, fun i a hi => by
        match i, hi with
        | 0, hi => simp at hi; subst hi; exact .fn _ _ _ #[] #[] rfl rfl (by simp) (by simp)
        | i + 1, hi => simp at hi⟩
    obtain ⟨d, hd, hm⟩ := hcall
    have hdd : d = { target := .fn (.func f) vc, args := vf ++ #[.func (.yield l) #[] #[]] } := by
      have := hd w1
      simp [Deferred.ofValue] at this
      exact this.symm
    subst hdd
    have hinv : (invoke (.fn (.func f) vc) (vf ++ #[.func (.yield l) #[] #[]])).run P w1 = .ok (.enter f (vf ++ #[.func (.yield l) #[] #[]] ++ vc)) w1 := by
      simp [invoke, callFunc, hf, hb', hname']
    rw [hinv] at hm
    refine ⟨l, _, w1, { target := .fn (.func f) vc, args := vf ++ #[.func (.yield l) #[] #[]] }, w1, f, _, w1, henter, ?_, fun _ _ => trivial, hinv, fun h => by simp [WF, Fence.wide] at h, ?_⟩
    · have hcst : a.eval (.const (.func (.yield l) #[] #[])) = .func (.yield l) #[] #[] := rfl
      simp [resolve, rangeCall, hg, hcst, Deferred.ofValue, w1, rec0, l]
    have hm' : CallsIn (WF none) (0 - 1) P f (vf ++ #[.func (.yield l) #[] #[]] ++ vc) w1 _ := hm
    refine hm'.mono ?_
    rintro e w6 ⟨u, rfl, I6, v6, h6, k1', k2', k3', k4', k5', rfl, hend⟩
    have s6 : SR g I6 (σ.setH h6) a w6 := s2'.call k1' k2' k4' k5'
    have h6r : h6 r = some .mark := by
      obtain ⟨o', e1, e2⟩ := k5' r _ h1r rfl
      rw [e1, AObj.sim_mark e2]
    -- the activation behind the loop
    have after : ∀ (r6 : Loop), h6 l = some (.loop r6 σ.tm) → r6.state ≠ .busy → ∃ h7 : Heap, h7 r = some .mark ∧ Steady l h6 h7 ∧ SR g I6 { σ with h := h7, ms := r :: σ.ms } { tmps := a.tmps, defers := [{ target := .collected w.heap.size, args := #[] }] ++ a.defers } (w6.putObj l (.loop { r6 with state := .exhausted })) := by
      intro r6 hl6 hst
      have s7 := s6.setLoop l hl6 (r' := { r6 with state := .exhausted }) ⟨rfl, rfl, rfl, rfl, rfl, rfl⟩
      refine ⟨h6.upd l (some (.loop { r6 with state := .exhausted } σ.tm)), by simpa [Heap.upd, Ne.symm hne] using h6r, .upd hl6 _, s7.le, s7.below, s7.base, s7.wr, s7.size, s7.slot, ⟨?_, ?_, ?_, s7.marks.keep, ?_⟩⟩
      · have := s7.marks.defs
        simp only [AS.setH] at this
        simp [this, r]
      · refine List.nodup_cons.2 ⟨fun hr => ?_, s7.marks.nodup⟩
        have := hs.marks.here r hr
        rw [hr0] at this; cases this
      · intro q hq
        rcases List.mem_cons.1 hq with rfl | hq
        · simpa [Heap.upd, Ne.symm hne] using h6r
        · exact s7.marks.here q hq
      · intro q hq o ho
        rcases List.mem_cons.1 hq with rfl | hq
        · cases hlk : o.locked with
          | false => rfl
          | true =>
            obtain ⟨o', e1, _⟩ := hs.marks.keep r o ho hlk
            rw [hr0] at e1; cases e1
        · exact s7.marks.apart q hq o ho
    rcases hend with ⟨z1, z2⟩ | ⟨i, hi, e, c, hc, z1, z2⟩
    · obtain ⟨h7, y1, y2, y3⟩ := after rec0 z2 (by simp [rec0])
      refine ⟨none, _, run_endLoop (k2'.obj l _ z2).2.1 (by simp [rec0]), ?_⟩
      exact ⟨I6, _, y3, hdone h7 r hr0 y1 (hJ l hl0' _ h6 h7 z1 y2)⟩
    · obtain ⟨h7, y1, y2, y3⟩ := after _ z2 (by simp)
      have hq : CQ g Q e { tmps := a.tmps, defers := [{ target := .collected w.heap.size, args := #[] }] ++ a.defers } _ := ⟨I6, _, y3, hstop e i h7 r hr0 y1 (by rw [hc]; rfl) (hJx l hl0' e i h6 h7 z1 y2)⟩
      refine ⟨some c, _, run_endLoop (k2'.obj l _ z2).2.1 (by simp), ?_⟩
      cases e with
      | ret => cases hc; exact wpIn_ret hq
      | exit id => cases hc; exact wpIn_exit hq
      | goto t => cases hc; exact wpIn_goto hq
      | normal => cases hc
      | panic ch => cases hc
      | outgrown => cases hc
end
end Go.AM
end
section
set_option linter.unusedVariables false
set_option linter.unusedSimpArgs false
namespace Go.AM
open Go.RowKit
section
variable {P : Program} {ρ : Option Nat} {Q : Exit → AS → Prop} {o : Oper} {ops : Array Oper} {l : List Oper} {n d : Nat} {tm : List (Nat × AV)} {h h0 : Heap} {ms : List Nat}
theorem AL_p {v : AV} (hg : o.guard = none) (hdst : o.dst = some d) (hd : Nat.blt d n = true) (hp : PO P ρ o ⟨n, tm, h, ms, h0⟩ v) (k : AL P ρ ops l Q ⟨n, (d, v) :: tm, h, ms, h0⟩) : AL P ρ ops (o :: l) Q ⟨n, tm, h, ms, h0⟩ := by
  refine AL_po hg (by rw [hdst]; exact hd) hp ?_
  rw [hdst]; exact k
theorem AL_pg {o' : Oper} {j t : Nat} {b : Bool} {v : AV} (hg : o.guard = some (j, b)) (hj : ops[j]? = some o') (ht : o'.dst = some t) (hb : look tm t = some (.lit (.bool b))) (hdst : o.dst = some d) (hd : Nat.blt d n = true) (hp : PO P ρ o ⟨n, tm, h, ms, h0⟩ v)
    (k : AL P ρ ops l Q ⟨n, (d, v) :: tm, h, ms, h0⟩) : AL P ρ ops (o :: l) Q ⟨n, tm, h, ms, h0⟩ := by
  refine AL_pog hg hj ht hb (by rw [hdst]; exact hd) hp ?_
  rw [hdst]; exact k
def Looks (tm : List (Nat × AV)) : List (Nat × AV) → Prop
  | [] => True
  | (k, v) :: r => look tm k = some v ∧ Looks tm r
theorem Looks.mem {tm : List (Nat × AV)} : ∀ {tm' : List (Nat × AV)}, Looks tm tm' → ∀ p ∈ tm', look tm p.1 = some p.2
  | [], _, p, h => by cases h
  | (k, v) :: r, hl, p, h => by
    rcases List.mem_cons.1 h with rfl | h
    · exact hl.1
    · exact Looks.mem hl.2 p h
theorem Looks.sub {tm tm' : List (Nat × AV)} (hl : Looks tm tm') : Sub ⟨n, tm', h, ms, h0⟩ ⟨n, tm, h, ms, h0⟩ := Sub.mk_ hl.mem
theorem AW_keep {c : Code} (tm' : List (Nat × AV)) (hl : Looks tm tm') (k : AW P ρ c Q ⟨n, tm', h, ms, h0⟩) : AW P ρ c Q ⟨n, tm, h, ms, h0⟩ := AW_ghost hl.sub.ghost k
theorem AL_keep (tm' : List (Nat × AV)) (hl : Looks tm tm') (k : AL P ρ ops l Q ⟨n, tm', h, ms, h0⟩) : AL P ρ ops l Q ⟨n, tm, h, ms, h0⟩ := AL_ghost hl.sub.ghost k
theorem Sub.again {k : Nat} {v : AV} (hk : look tm k = some v) : Sub ⟨n, (k, v) :: tm, h, ms, h0⟩ ⟨n, tm, h, ms, h0⟩ := by
  refine ⟨rfl, rfl, rfl, rfl, fun q x e => ?_⟩
  rw [look_cons] at e
  by_cases hq : k = q
  · rw [if_pos hq] at e; rw [← hq, ← e]; exact hk
  · rwa [if_neg hq] at e
theorem AL_split (k : Nat) (B : Bool) (hk : look tm k = some (.lit (.bool B))) (ht : B = true → AL P ρ ops l Q ⟨n, (k, .lit (.bool true)) :: tm, h, ms, h0⟩) (hf : B = false → AL P ρ ops l Q ⟨n, (k, .lit (.bool false)) :: tm, h, ms, h0⟩) : AL P ρ ops l Q ⟨n, tm, h, ms, h0⟩ := by
  cases hB : B with
  | true => exact AL_ghost (Sub.again (by rw [hk, hB])).ghost (ht hB)
  | false => exact AL_ghost (Sub.again (by rw [hk, hB])).ghost (hf hB)
theorem AW_split {c : Code} (k : Nat) (B : Bool) (hk : look tm k = some (.lit (.bool B))) (ht : B = true → AW P ρ c Q ⟨n, (k, .lit (.bool true)) :: tm, h, ms, h0⟩) (hf : B = false → AW P ρ c Q ⟨n, (k, .lit (.bool false)) :: tm, h, ms, h0⟩) : AW P ρ c Q ⟨n, tm, h, ms, h0⟩ := by
  cases hB : B with
  | true => exact AW_ghost (Sub.again (by rw [hk, hB])).ghost (ht hB)
  | false => exact AW_ghost (Sub.again (by rw [hk, hB])).ghost (hf hB)
theorem AL_say {k : Nat} {v : AV} (u : AV) (hk : look tm k = some v) (e : v = u) (hh : AL P ρ ops l Q ⟨n, (k, u) :: tm, h, ms, h0⟩) : AL P ρ ops l Q ⟨n, tm, h, ms, h0⟩ := by
  subst e; exact AL_ghost (Sub.again hk).ghost hh
theorem AL_s {o' : Oper} {j t : Nat} {b want : Bool} (tm' : List (Nat × AV)) (hg : o.guard = some (j, want)) (hj : ops[j]? = some o') (ht : o'.dst = some t) (hb : look tm t = some (.lit (.bool b))) (hne : b ≠ want) (hdst : o.dst = some d)
    (hl : Looks tm tm') (hnd : tm'.all (fun p => !Nat.beq p.1 d) = true) (k : AL P ρ ops l Q ⟨n, tm', h, ms, h0⟩) : AL P ρ ops (o :: l) Q ⟨n, tm, h, ms, h0⟩ := by
  refine AL_skip hg hj ht hb hne ?_
  rw [hdst]
  have : Looks (del d tm) tm' := by
    clear k
    induction tm' with
    | nil => trivial
    | cons p r ih =>
      obtain ⟨q, v⟩ := p
      rw [List.all_cons, Bool.and_eq_true] at hnd
      refine ⟨?_, ih hl.2 hnd.2⟩
      rw [look_del_ne (fun e => by have := hnd.1; rw [e] at this; simp at this)]; exact hl.1
  exact AL_keep (tm := del d tm) tm' this k
theorem AL_m {R : AV → Heap → Prop} (hg : o.guard = none) (hdst : o.dst = some d) (hd : Nat.blt d n = true) (hp : MO P ρ o ⟨n, tm, h, ms, h0⟩ R) (k : ∀ v h', R v h' → AL P ρ ops l Q ⟨n, (d, v) :: tm, h', ms, h0⟩) : AL P ρ ops (o :: l) Q ⟨n, tm, h, ms, h0⟩ := by
  refine AL_mo hg (by rw [hdst]; exact hd) hp fun v h' hR => ?_
  rw [hdst]; exact k v h' hR
theorem AL_u {R : AV → Heap → Prop} (hg : o.guard = none) (hdst : o.dst = none) (hp : MO P ρ o ⟨n, tm, h, ms, h0⟩ R) (k : ∀ v h', R v h' → AL P ρ ops l Q ⟨n, tm, h', ms, h0⟩) : AL P ρ ops (o :: l) Q ⟨n, tm, h, ms, h0⟩ := by
  refine AL_mo hg (by rw [hdst]; rfl) hp fun v h' hR => ?_
  rw [hdst]; exact k v h' hR
def otherTmp (d : Nat) : Operand → Bool
  | .tmp k => !Nat.beq d k
  | _ => true
structure AllocF (P : Program) (t : TypeId) (d : TypeDesc) (m : Nat) (zs : List AV) : Prop where
  ty : TyF P t d m
  z : ZeroF P t zs
  l : zs.length = m
theorem AL_als {o1 o2 : Oper} {t : TypeId} {y : Operand} {v : AV} {dd : TypeDesc} {m : Nat} {zs : List AV} (h1 : o1.op = .alloc t) (hg1 : o1.guard = none) (hd1 : o1.dst = some d) (h2 : o2.op = .store t (.tmp d) y) (hg2 : o2.guard = none) (hd2 : o2.dst = none)
    (hF : AllocF P t dd m zs) (hd : Nat.blt d n = true) (hy : ev tm y = some v) (hyd : otherTmp d y = true) (hv : acell1 v = true) (hn : (acells v).length = m)
    (k : AL P ρ ops l Q ⟨n, (d, .ip (acells v)) :: tm, h, ms, h0⟩) : AL P ρ ops (o1 :: o2 :: l) Q ⟨n, tm, h, ms, h0⟩ := by
  refine AL_m hg1 hd1 hd (MO_alloc h1 hF.z) ?_
  rintro u h' ⟨b, hb, rfl, rfl⟩
  have hy' : ev ((d, AV.ptr b 0) :: tm) y = some v := by
    cases y with
    | tmp k =>
      show look ((d, AV.ptr b 0) :: tm) k = some v
      rw [look_cons, if_neg (fun e => by subst e; simp [otherTmp] at hyd)]
      exact hy
    | const c => exact hy
    | func f => exact hy
    | global g => exact hy
  refine AL_u hg2 hd2 (MO_store (x := .tmp d) (b := b) (off := 0) (cs := zs) (v := v) h2 hF.ty (by show look ((d, AV.ptr b 0) :: tm) d = _; rw [look_cons, if_pos rfl]) hy' (by simp) hv hn (by rw [hF.l]; omega)) ?_
  rintro u h' ⟨rfl, rfl⟩
  have hset : setCells zs 0 (acells v) = acells v := by
    have hl := hF.l
    simp only [setCells, List.take_zero, List.nil_append, Nat.zero_add]
    rw [List.drop_of_length_le (by omega), List.append_nil]
  rw [hset]
  have hh : ((h.upd b (some (.row zs))).upd b (some (.row (acells v)))).upd b none = h := by
    funext k
    simp only [Heap.upd]
    split
    · rename_i e; rw [e]; exact hb.symm
    · rfl
  refine AL_ghost (σ' := ⟨n, (d, .ip (acells v)) :: tm, ((h.upd b (some (.row zs))).upd b (some (.row (acells v)))).upd b none, ms, h0⟩) (ghost_freeze (b := b) (cs := acells v) (by simp) ?_) (by rw [hh]; exact k)
  intro q y hq
  rw [look_cons] at hq
  by_cases hqd : d = q
  · rw [if_pos hqd] at hq
    injection hq with hq
    subst hq
    exact ⟨.ptr b 0, by rw [look_cons, if_pos hqd], by simpa using Frz.ptr (b := b) (cs := acells v) 0⟩
  · rw [if_neg hqd] at hq
    exact ⟨y, by rw [look_cons, if_neg hqd]; exact hq, .refl _⟩
theorem TyF.mk_ {t : TypeId} {dd : TypeDesc} {m : Nat} (hu : P.underlying t = some dd) (hi : (P.info? t).map (·.size) = some m) : TyF P t dd m := by
  obtain ⟨i, h1, h2⟩ := Option.map_eq_some_iff.1 hi
  exact ⟨hu, i, h1, h2⟩
theorem FieldF.mk_ {s f off t m : Nat} {fs : Array Field} {fl : Field} (hu : P.underlying s = some (.struct fs)) (hf : fs[f]? = some fl) (ho : fl.offset = off) (ht : fl.type = t) (hi : (P.info? t).map (·.size) = some m) (hm : Nat.blt 0 m = true) : FieldF P s f off t := by
  obtain ⟨i, h1, h2⟩ := Option.map_eq_some_iff.1 hi
  exact ⟨⟨fs, fl, hu, hf, ho, ht⟩, i, h1, by simp [Nat.blt] at hm; omega⟩
theorem ZeroF.mk_ {t : TypeId} {z : Value} {zs : List AV} (hi : (P.info? t).bind (·.zero) = some z) (h2 : acells (ofConst z) = zs) (h3 : acell1 (ofConst z) = true) : ZeroF P t zs := by
  obtain ⟨i, h1, h4⟩ := Option.bind_eq_some_iff.1 hi
  exact ⟨i, z, h1, h4, h2, h3⟩
theorem ZeroV.mk_ {t : TypeId} {z : Value} {zv : AV} (hi : (P.info? t).bind (·.zero) = some z) (h2 : ofConst z = zv) : ZeroV P t zv := by
  obtain ⟨i, h1, h4⟩ := Option.bind_eq_some_iff.1 hi
  exact ⟨i, z, h1, h4, h2⟩
def NeedsB (l : List Oper) (tm : List (Nat × AV)) (vals : List AV) (i : Nat) : List (Nat × AV) → Prop
  | [] => True
  | p :: r => NeedB l tm vals i p ∧ NeedsB l tm vals i r
def KnowsB (l : List Oper) (tm : List (Nat × AV)) (m : Nat) (vals : List AV) : List (Nat × AV) → Prop
  | [] => True
  | p :: r => KnowB l tm m vals p ∧ KnowsB l tm m vals r
def StepsB (P : Program) (ρ : Option Nat) (l : List Oper) (σ : AS) (vals : List AV) : Nat → List Oper → List AV → Prop
  | i, o :: r, v :: vs => (∃ tm, NeedsB l σ.tm vals i tm ∧ StepB P ρ l o ⟨σ.n, tm, σ.h, σ.ms, σ.h0⟩ v) ∧ StepsB P ρ l σ vals (i + 1) r vs
  | _, [], _ => True
  | _, _, _ => False
theorem NeedsB.all {l : List Oper} {tm : List (Nat × AV)} {vals : List AV} {i : Nat} : ∀ {t : List (Nat × AV)}, NeedsB l tm vals i t → ∀ p ∈ t, NeedB l tm vals i p
  | [], _, p, h => by cases h
  | q :: r, hl, p, h => by
    rcases List.mem_cons.1 h with rfl | h
    · exact hl.1
    · exact NeedsB.all hl.2 p h
theorem KnowsB.all {l : List Oper} {tm : List (Nat × AV)} {vals : List AV} {i : Nat} : ∀ {t : List (Nat × AV)}, KnowsB l tm i vals t → ∀ p ∈ t, KnowB l tm i vals p
  | [], _, p, h => by cases h
  | q :: r, hl, p, h => by
    rcases List.mem_cons.1 h with rfl | h
    · exact hl.1
    · exact KnowsB.all hl.2 p h
theorem StepsB.get {σ : AS} {l : List Oper} {vals : List AV} : ∀ {os : List Oper} {vs : List AV} {i : Nat}, StepsB P ρ l σ vals i os vs → ∀ k o, os[k]? = some o → ∃ tm v, vs[k]? = some v ∧ NeedsB l σ.tm vals (i + k) tm ∧ StepB P ρ l o ⟨σ.n, tm, σ.h, σ.ms, σ.h0⟩ v
  | [], _, _, _, k, o, h => by simp at h
  | a :: r, [], _, hs, _, _, _ => hs.elim
  | a :: r, v :: vs, i, hs, k, o, h => by
    cases k with
    | zero =>
      simp at h; subst h
      obtain ⟨tm, h1, h2⟩ := hs.1
      exact ⟨tm, v, rfl, h1, h2⟩
    | succ k =>
      obtain ⟨tm, u, h1, h2, h3⟩ := StepsB.get hs.2 k o (by simpa using h)
      exact ⟨tm, u, by simpa using h1, by rwa [show i + (k + 1) = i + 1 + k by omega], h3⟩
theorem AW_draw {id : Nat} (m : Nat) (vals : List AV) (tm' : List (Nat × AV)) (hl : ops.toList = l) (hm : P.follows .mixedOrders = true) (hok : drawOk m l = true) (hml : Nat.ble m l.length = true)
    (hdst : ((l.take m).all fun o => match o.dst with | some d => Nat.blt d n | none => true) = true)
    (steps : StepsB P ρ l ⟨n, tm, h, ms, h0⟩ vals 0 (l.take m) vals) (hknow : KnowsB l tm m vals tm') (k : AL P ρ ops (l.drop m) Q ⟨n, tm', h, ms, h0⟩) : AW P ρ (.region id ops true) Q ⟨n, tm, h, ms, h0⟩ := by
  refine AW_region_draw (σ := ⟨n, tm, h, ms, h0⟩) m vals tm' hl hm hok (Nat.le_of_ble_eq_true hml) ?_ ?_ (fun k v e => hknow.all (k, v) (look_mem e)) k
  · intro i o d hi him hd
    rw [List.all_eq_true] at hdst
    have := hdst o (by
      rw [List.mem_iff_getElem?]
      exact ⟨i, by rw [List.getElem?_take, if_pos him]; exact hi⟩)
    rw [hd] at this
    simp [Nat.blt] at this
    show d < n
    omega
  · intro i o hi him
    obtain ⟨t, v, h1, h2, h3⟩ := steps.get i o (by rw [List.getElem?_take, if_pos him]; exact hi)
    exact ⟨t, v, h1, by simpa using h2.all, h3⟩
theorem PFn_of {f : Nat} {fn : Func} {c : Code} {args cap first : List AV} {v : AV} (hf : P.funcs[f]? = some fn) (hb : fn.body = some c) (hname : (fn.name == "runtime.NumGoroutine") = false) (hn : fn.ntmps = n) (ht : argTm 0 (first ++ args ++ cap) = tm) (hle : (first ++ args ++ cap).length ≤ n)
    (hw : ∀ h, AW P none c (retQ fn h (fun a h' => a = v ∧ h.le h')) ⟨n, tm, h, [], h⟩) : PFn P (.fn (.func f) first cap) args v := by
  intro h
  refine AFn_of hf hb hname (by omega) ?_
  rw [hn, ht]; exact hw h
theorem ret_le {fn : Func} {v : AV} {e : Exit} (he : e = .ret ∨ e = .normal) (hv : ares fn ⟨n, tm, h, [], h0⟩ = some v) (hh : h0.le h) : retQ fn h0 (fun a h' => a = v ∧ h0.le h') e ⟨n, tm, h, [], h0⟩ := by
  have : ∃ u, ares fn ⟨n, tm, h, [], h0⟩ = some u ∧ h0 = h0 ∧ ∀ h', (∀ b o, h' b = some o ↔ h b = some o ∧ b ∉ ([] : List Nat)) → u = v ∧ h0.le h' :=
    ⟨v, hv, rfl, fun h' hk => ⟨rfl, fun b o e => (hk b o).2 ⟨hh b o e, by simp⟩⟩⟩
  rcases he with rfl | rfl <;> exact this
end
end Go.AM
end
section
set_option linter.unusedVariables false
set_option linter.unusedSimpArgs false
namespace Go.AM
open Go.RowKit
section
variable {P : Program} {ρ : Option Nat} {Q : Exit → AS → Prop} {o : Oper} {ops : Array Oper} {l : List Oper} {n d : Nat} {tm : List (Nat × AV)} {h h0 : Heap} {ms : List Nat} {σ : AS}
theorem i64w {z : Int} (h1 : -9223372036854775808 ≤ z) (h2 : z ≤ 9223372036854775807) : IntKind.i64.wrap z = z := IntWalk.i64_in z ⟨h1, h2⟩
theorem mget {α : Type} {l : List α} {i : Nat} {r : α} {f : α → List AV} (h : l[i]? = some r) : (l.map f)[((i : Nat) : Int).toNat]? = some (f r) := by
  simp [h]
theorem PO_lenM {α : Type} {x : Operand} {t : TypeId} {S : Nat} {own : Own} {es : List α} {f : α → List AV} {e : TypeId} (ho : o.op = .call { callee := .builtin .len, args := #[x], argTypes := #[t] }) (ht : P.underlying t = some (.slice e))
    (hx : ev σ.tm x = some (.sl own S (es.map f))) : PO P ρ o σ (.lit (.int .i64 es.length)) := by
  have := PO_len (ρ := ρ) ho ht hx
  simpa using this
theorem PO_fit {x y : Operand} {op : BinOp} {t t' : TypeId} {k : IntKind} {i j z z' : Int} (ho : o.op = .binOp op t x y t') (hx : ev σ.tm x = some (.lit (.int k i))) (hy : ev σ.tm y = some (.lit (.int k j)))
    (hv : intOp op k i j = some (.int k z)) (hd : divSafe op j) (hz : z = z') : PO P ρ o σ (.lit (.int k z')) := hz ▸ PO_int ho hx hy hv hd
theorem PO_boxA {x : Operand} {e : TypeId} {cs : List AV} (ho : o.op = .box e x) (hx : ev σ.tm x = some (.agg cs)) : PO P ρ o σ (.ip cs) := PO_box ho hx rfl
theorem PO_box1 {x : Operand} {e : TypeId} {v : AV} (ho : o.op = .box e x) (hx : ev σ.tm x = some v) (hc : v.cell = true) : PO P ρ o σ (.ip [v]) := by
  have h1 : acell1 v = true := by cases v <;> first | exact hc | rfl
  have h2 : acells v = [v] := by cases v <;> first | rfl | cases hc
  exact h2 ▸ PO_box ho hx h1
theorem PO_inc {x y : Operand} {t t' : TypeId} {i j : Nat} (ho : o.op = .binOp .add t x y t') (hx : ev σ.tm x = some (.lit (.int .i64 (i : Nat)))) (hy : ev σ.tm y = some (.lit (.int .i64 (j : Nat)))) (hb : i + j ≤ 9223372036854775807) :
    PO P ρ o σ (.lit (.int .i64 ((i + j : Nat) : Int))) :=
  PO_fit ho hx hy rfl trivial (by rw [i64w (by omega) (by omega)]; omega)
theorem SR.putU {g : G} {I : Imm} {a : Act} {w : World} (hs : SR g I ⟨n, tm, h, ms, h0⟩ a w) (hd : Nat.blt d n = true) : SR g I ⟨n, (d, .tup []) :: tm, h, ms, h0⟩ (a.put (some d) undef) w :=
  hs.put d (by simp [Nat.blt] at hd; show d < n; omega) (.tup [] #[] rfl (fun i a h => by simp at h))
theorem AL_s0 {o' : Oper} {j t : Nat} {b want : Bool} (hg : o.guard = some (j, want)) (hj : ops[j]? = some o') (ht : o'.dst = some t) (hb : look tm t = some (.lit (.bool b))) (hne : (b == want) = false) (hdst : o.dst = some d) (hd : Nat.blt d n = true)
    (k : AL P ρ ops l Q ⟨n, (d, .tup []) :: tm, h, ms, h0⟩) : AL P ρ ops (o :: l) Q ⟨n, tm, h, ms, h0⟩ := by
  intro g I a w idx hi hs
  cases idx with
  | nil => simp at hi
  | cons i idx =>
    simp only [List.map_cons, List.cons.injEq] at hi
    simp only [wpOpsIn, hi.1]
    have hv := hs.slot t _ hb
    have hlt : t < a.tmps.size := by
      rcases Nat.lt_or_ge t a.tmps.size with h | h
      · exact h
      · rw [Array.getD_eq_getD_getElem?, Array.getElem?_eq_none h] at hv
        cases hv
    have hy : yielded ops a.tmps j = some b := by
      simp only [yielded, hj, Option.bind_some, ht]
      rw [Array.getD_eq_getD_getElem?, Array.getElem?_eq_getElem hlt] at hv
      rw [Array.getElem?_eq_getElem hlt]
      simp only [Option.getD_some] at hv
      generalize a.tmps[t] = u at hv
      cases hv
      rfl
    rw [if_neg (by simp only [Region.wanted, hg, hy]; intro e; cases b <;> cases want <;> simp_all)]
    refine ⟨fun _ _ => trivial, k g I _ w idx hi.2 ?_⟩
    rw [hdst]
    exact hs.putU hd
theorem AL_s1 {o' : Oper} {j t : Nat} {want : Bool} (hg : o.guard = some (j, want)) (hj : ops[j]? = some o') (ht : o'.dst = some t) (hb : look tm t = some (.tup [])) (hdst : o.dst = some d) (hd : Nat.blt d n = true)
    (k : AL P ρ ops l Q ⟨n, (d, .tup []) :: tm, h, ms, h0⟩) : AL P ρ ops (o :: l) Q ⟨n, tm, h, ms, h0⟩ := by
  intro g I a w idx hi hs
  cases idx with
  | nil => simp at hi
  | cons i idx =>
    simp only [List.map_cons, List.cons.injEq] at hi
    simp only [wpOpsIn, hi.1]
    have hv := hs.slot t _ hb
    have hu : a.tmps.getD t undef = .tuple #[] := by
      generalize a.tmps.getD t undef = u at hv
      cases hv with
      | tup _ us hl _ => exact congrArg Value.tuple (Array.eq_empty_of_size_eq_zero hl)
    have hy : yielded ops a.tmps j = none := by
      simp only [yielded, hj, Option.bind_some, ht]
      rw [Array.getD_eq_getD_getElem?] at hu
      cases hq : a.tmps[t]? with
      | none => rfl
      | some u => rw [hq] at hu; simp at hu; subst hu; rfl
    rw [if_neg (by simp only [Region.wanted, hg, hy]; cases want <;> simp)]
    refine ⟨fun _ _ => trivial, k g I _ w idx hi.2 ?_⟩
    rw [hdst]
    exact hs.putU hd
structure At (σ : AS) (n : Nat) (tm : List (Nat × AV)) (h : Heap) (ms : List Nat) (h0 : Heap) : Prop where
  n : σ.n = n
  tm : Looks σ.tm tm
  h : σ.h = h
  ms : σ.ms = ms
  h0 : σ.h0 = h0
theorem At.ghost (hs : At σ n tm h ms h0) : Ghost σ ⟨n, tm, h, ms, h0⟩ := by
  obtain ⟨a, b, c, d, e⟩ := σ
  obtain ⟨h1, h2, h3, h4, h5⟩ := hs
  subst h1; subst h3; subst h4; subst h5
  exact (Looks.sub h2).ghost
theorem AW_at {c : Code} (hs : At σ n tm h ms h0) (k : AW P ρ c Q ⟨n, tm, h, ms, h0⟩) : AW P ρ c Q σ := AW_ghost hs.ghost k
theorem AW_iter {c : Code} {α : Type} (S : α → List (Nat × AV)) (H : α → Heap) (I : α → Prop) (μ : α → Nat) (a0 : α) (hl : Looks tm (S a0)) (hh : h = H a0) (hi : I a0)
    (round : ∀ a, I a → AW P ρ c (sq (fun σ' => ∃ a', I a' ∧ μ a' < μ a ∧ At σ' n (S a') (H a') ms h0) Q) ⟨n, S a, H a, ms, h0⟩) : AW P ρ (.loop c) Q ⟨n, tm, h, ms, h0⟩ := by
  refine AW_loop (fun m σ => ∃ a, I a ∧ μ a = m ∧ At σ n (S a) (H a) ms h0) (μ a0) ⟨a0, hi, rfl, ⟨rfl, hl, hh, rfl, rfl⟩⟩ ?_
  rintro m σ ⟨a, ha, rfl, hs⟩
  refine AW_at hs (AW_mono (round a ha) ?_)
  intro e σ' hq
  cases e with
  | normal =>
    obtain ⟨a', h1, h2, h3⟩ := hq
    exact ⟨μ a', h2, a', h1, rfl, h3⟩
  | exit id => exact hq
  | goto l => exact hq
  | ret => exact hq
  | panic ch => exact hq
  | outgrown => exact hq
theorem AW_then {x : Code} (M : AS → Prop) (hx : AW P ρ x (sq M Q) σ) (k : ∀ σ', M σ' → Q .normal σ') : AW P ρ x Q σ := by
  refine AW_mono hx ?_
  intro e σ' hq
  cases e with
  | normal => exact k σ' hq
  | exit id => exact hq
  | goto l => exact hq
  | ret => exact hq
  | panic ch => exact hq
  | outgrown => exact hq
theorem AW_join {x y : Code} {α : Type} (S : α → List (Nat × AV)) (H : α → Heap) (I : α → Prop) (hx : AW P ρ x (sq (fun σ' => ∃ a, I a ∧ At σ' n (S a) (H a) ms h0) Q) ⟨n, tm, h, ms, h0⟩) (hy : ∀ a, I a → AW P ρ y Q ⟨n, S a, H a, ms, h0⟩) : AW P ρ (.seq x y) Q ⟨n, tm, h, ms, h0⟩ :=
  AW_cut _ hx fun σ' ⟨a, ha, hs⟩ => AW_at hs (hy a ha)
theorem wpIn_oper_mono2 {F : Fence} {k : Nat} {a : Act} {w : World} {K K' : Act → World → Prop} {Q Q' : Exit → Act → World → Prop}
    (h : o.wpIn F k P a w K Q) (hk : ∀ a w, K a w → K' a w) (hq : ∀ e a w, e ≠ .normal → Q e a w → Q' e a w) : o.wpIn F k P a w K' Q' := by
  refine ⟨h.1, ?_⟩
  have h2 := h.2
  unfold Oper.uponIn at h2 ⊢
  split at h2
  · exact hk _ _ h2
  · exact hk _ _ h2
  · exact hk _ _ h2
  · refine ⟨h2.1, h2.2.mono ?_⟩
    intro e w' hR
    cases e with
    | returned v => exact hk _ _ hR
    | panicked ch => exact hq _ _ _ (by simp) hR
    | outgrown => obtain ⟨a, w, k⟩ := hR; exact ⟨a, w, hq _ _ _ (by simp) k⟩
  · exact ⟨h2.1, h2.2.mono fun v w' hR => hk _ _ hR⟩
  · refine ⟨h2.1, h2.2.mono ?_⟩
    intro e w' hR
    cases e with
    | returned v => exact hk _ _ hR
    | panicked ch => exact hq _ _ _ (by simp) hR
    | outgrown => obtain ⟨a, w, k⟩ := hR; exact ⟨a, w, hq _ _ _ (by simp) k⟩
  · exact hq _ _ _ (by simp) h2
  · exact h2
theorem ops_append {F : Fence} {k : Nat} {Q1 Q' : Exit → Act → World → Prop} {i2 : List Nat} (hn : ∀ a w, Q1 .normal a w → wpOpsIn F k P ops Q' i2 a w) (hq : ∀ e a w, e ≠ .normal → Q1 e a w → Q' e a w) :
    ∀ (i1 : List Nat) (a : Act) (w : World), wpOpsIn F k P ops Q1 i1 a w → wpOpsIn F k P ops Q' (i1 ++ i2) a w := by
  intro i1
  induction i1 with
  | nil => intro a w h; exact hn a w h
  | cons i r ih =>
    intro a w h
    simp only [List.cons_append]
    unfold wpOpsIn at h ⊢
    split at h
    · exact ih a w h
    · split at h
      · rename_i hw; rw [if_pos hw]; exact wpIn_oper_mono2 h (fun a w h => ih a w h) hq
      · rename_i hw; rw [if_neg hw]; exact ⟨h.1, ih _ _ h.2⟩
theorem AL_app {l1 l2 : List Oper} (M : AS → Prop) (h1 : AL P ρ ops l1 (fun e σ' => e = .normal ∧ M σ') σ) (h2 : ∀ σ', M σ' → AL P ρ ops l2 Q σ') : AL P ρ ops (l1 ++ l2) Q σ := by
  intro g I a w idx hi hs
  rw [List.map_append] at hi
  obtain ⟨i1, i2, rfl, e1, e2⟩ := List.map_eq_append_iff.1 hi
  refine ops_append ?_ ?_ i1 a w (h1 g I a w i1 e1 hs)
  · rintro a w ⟨I', σ', hs', -, hm⟩
    exact h2 σ' hm g I' a w i2 e2 hs'
  · rintro e a w hne ⟨I', σ', hs', he, -⟩
    exact absurd he hne
theorem AL_join (m : Nat) (tm' : List (Nat × AV)) (hl : AL P ρ ops (l.take m) (fun e σ' => e = .normal ∧ At σ' n tm' h ms h0) ⟨n, tm, h, ms, h0⟩) (hr : AL P ρ ops (l.drop m) Q ⟨n, tm', h, ms, h0⟩) : AL P ρ ops l Q ⟨n, tm, h, ms, h0⟩ := by
  have := AL_app (l1 := l.take m) (l2 := l.drop m) _ hl (Q := Q) fun σ' hs => AL_ghost hs.ghost hr
  rwa [List.take_append_drop] at this
end
end Go.AM
end
