/- A part of the proof: walks of the code and laws that they use (Am17, Am18, Am20, Am21, Am22, Ax1, Ax2, Ax3, Ax5, Ax4, Dt). Conditions: as each theorem names them. -/
import Derived.Laws.Externs
import Derived.Lib.Bytealg
import Derived.Test.YtdognapppnfpiaaGreatDoorC9
section
set_option linter.unusedVariables false
set_option linter.unusedSimpArgs false
namespace Go.AM
open Go.RowKit
theorem PFn_extern {P : Program} {f : Nat} {fn : Func} {e : Array Value → Sem Value} {us : List Value} {u : Value} (hf : P.funcs[f]? = some fn) (hname : (fn.name == "runtime.NumGoroutine") = false) (hb : fn.body.isNone = true) (hn : Extern.findNext fn = none) (he : Extern.find fn = some e)
    (hr : ∀ w, (e us.toArray).run P w = .ok u w) (hu : u.oneCell' = true) : PFn P (.fn (.func f) [] []) (us.map AV.lit) (.lit u) := by
  intro h base I w fv vs h0 hw hfv hvs
  cases hfv with
  | fn _ _ _ vf vc hvf hvc k1 k2 =>
    have e1 : vf = #[] := Array.eq_empty_of_size_eq_zero hvf
    have e2 : vc = #[] := Array.eq_empty_of_size_eq_zero hvc
    subst e1; subst e2
    have e3 : vs = us.toArray := by
      apply Array.ext
      · simpa using hvs.1
      · intro i h1 h2
        have h3 : i < us.length := by simpa using h2
        have := hvs.2 i (.lit us[i]) (by simp [h3])
        have := VR.lit_inv this
        simpa [Array.getD_eq_getD_getElem?, h1] using this
    subst e3
    refine ⟨{ target := .fn (.func f) #[], args := #[] ++ us.toArray }, fun _ => rfl, ?_⟩
    have hrun : (invoke (.fn (.func f) #[]) (#[] ++ us.toArray)).run P w = .ok (.value u) w := by
      simp only [invoke, Array.append_empty, Array.empty_append]
      rw [run_callFunc_extern hf hname hb hn he]
      simp [hr]
    rw [hrun]
    exact ⟨u, rfl, I, .lit u, h, .refl _, hw, .lit _ hu, .refl _ _, .refl _, rfl, .refl _⟩
section
variable {P : Program} {ρ : Option Nat} {Q : Exit → AS → Prop} {o : Oper} {ops : Array Oper} {l : List Oper} {n d : Nat} {tm : List (Nat × AV)} {h h0 : Heap} {ms : List Nat} {σ : AS}
theorem ghost_mp {b : Nat} {ks : List CK} {agg : Bool} {es : List (List Value × AV)} {tm' : List (Nat × AV)} (hb : σ.h b = some (.map ks agg es)) (ht : ∀ k y, look tm' k = some y → look σ.tm k = some y ∨ (look σ.tm k = some (.mp b) ∧ y = .im ks agg es)) : Ghost σ { σ with tm := tm', h := σ.h.upd b none } := by
  intro g I a w hs
  obtain ⟨hbase, ents, clock, hw, hsz, hent, hfree⟩ := hs.wr.obj b _ hb
  obtain ⟨s1, hle⟩ := (hs.delObj b (fun o e => by rw [hb] at e; cases e; rfl)).setMp b ents.toList hfree (clock := clock) (by simpa using hw) (by simp [AS.setH])
  refine ⟨_, ⟨s1.le, s1.below, s1.base, s1.wr, s1.size, fun k y hy => ?_, ⟨s1.marks.defs, s1.marks.nodup, s1.marks.here, s1.marks.keep, s1.marks.apart⟩⟩⟩
  rcases ht k y hy with hx | ⟨hx, rfl⟩
  · exact s1.slot k y hx
  · have := s1.slot k _ hx
    generalize a.tmps.getD k undef = u at this ⊢
    cases this with
    | mp =>
      refine .im ks agg es b ents.toList (by simp [Imm.setMp]) (by simpa using hsz) (fun i p e h1 h2 => ?_) (fun i p e h1 h2 => ?_)
      · have := hent i p e h1 (by simpa using h2); exact ⟨this.1, this.2.1⟩
      · have := hent i p e h1 (by simpa using h2); exact this.2.2.mono hle
theorem AL_mpf {b k : Nat} {ks : List CK} {agg : Bool} {es : List (List Value × AV)} (hk : look tm k = some (.mp b)) (hb : h b = some (.map ks agg es)) (kk : AL P ρ ops l Q ⟨n, (k, .im ks agg es) :: tm, h.upd b none, ms, h0⟩) : AL P ρ ops l Q ⟨n, tm, h, ms, h0⟩ := by
  refine AL_ghost (σ' := ⟨n, (k, .im ks agg es) :: tm, h.upd b none, ms, h0⟩) (ghost_mp (σ := ⟨n, tm, h, ms, h0⟩) hb fun q y hy => ?_) kk
  rw [look_cons] at hy
  by_cases hq : k = q
  · rw [if_pos hq] at hy
    injection hy with hy
    exact .inr ⟨hq ▸ hk, hy.symm⟩
  · rw [if_neg hq] at hy; exact .inl hy
theorem AL_makeMap {t : TypeId} (ks : List CK) (agg : Bool) (hg : o.guard = none) (hdst : o.dst = some d) (hd : Nat.blt d n = true) (ho : o.op = .makeMap t none) (k : ∀ b, h b = none → AL P ρ ops l Q ⟨n, (d, .mp b) :: tm, h.upd b (some (.map ks agg [])), ms, h0⟩) : AL P ρ ops (o :: l) Q ⟨n, tm, h, ms, h0⟩ :=
  AL_m hg hdst hd (MO_makeMap ks agg ho) fun v h' ⟨b, hb, e1, e2⟩ => by subst e1; subst e2; exact k b hb
theorem Heap.upd_upd (h : Heap) (b : Nat) (x y : Option AObj) : (h.upd b x).upd b y = h.upd b y := by
  funext q; simp only [Heap.upd]; split <;> rfl
theorem Heap.upd_none {h : Heap} {b : Nat} (hb : h b = none) (x : Option AObj) : (h.upd b x).upd b none = h := by
  funext q; simp only [Heap.upd]; split
  · rename_i e; rw [e, hb]
  · rfl
theorem AL_mapUpd {t kt et : TypeId} {m x y : Operand} {b : Nat} {ks : List CK} {agg : Bool} {es : List (List Value × AV)} {kv v : AV} {k : List Value} (hg : o.guard = none) (hdst : o.dst = none) (ho : o.op = .mapUpdate t m x y ∨ o.op = .insert t m x y) (ht : P.underlying t = some (.map kt et)) (hK : KeyF P kt agg ks)
    (hm : ev tm m = some (.mp b)) (hx : ev tm x = some kv) (hkv : akey agg kv = some k) (hk : kOks ks k = true) (hy : ev tm y = some v)
    (kk : AL P ρ ops l Q ⟨n, tm, h.upd b (some (.map ks agg (aput k v es))), ms, h0⟩) : AL P ρ ops (o :: l) Q ⟨n, tm, h.upd b (some (.map ks agg es)), ms, h0⟩ := by
  refine AL_u hg hdst (MO_mapUpdate ho ht hK hm (Heap.upd_same _ _ _) hx hkv hk hy) fun v h' ⟨_, e2⟩ => ?_
  rw [show h' = h.upd b (some (.map ks agg (aput k _ es))) from e2.trans (Heap.upd_upd _ _ _ _)]
  exact kk
theorem AL_mpf1 {b k : Nat} {ks : List CK} {agg : Bool} {es : List (List Value × AV)} (hk : look tm k = some (.mp b)) (hb : h b = none) (kk : AL P ρ ops l Q ⟨n, (k, .im ks agg es) :: tm, h, ms, h0⟩) : AL P ρ ops l Q ⟨n, tm, h.upd b (some (.map ks agg es)), ms, h0⟩ :=
  AL_mpf hk (Heap.upd_same _ _ _) (by rw [Heap.upd_none hb]; exact kk)
theorem PO_slice_ms {t e : TypeId} {S : Nat} {dd : TypeDesc} {x : Operand} {lo hi : Option Operand} {b off len cap : Nat} {i j : Int} (ho : o.op = .slice t x lo hi none) (ht : P.underlying t = some (.slice e)) (he : TyF P e dd S) (hx : ev σ.tm x = some (.ms b off S len cap))
    (hl : bnd σ.tm 0 lo = some i) (hh : bnd σ.tm len hi = some j) (h0 : 0 ≤ i) (h1 : i ≤ j) (h2 : j ≤ cap) (h3 : i = 0 ∨ i < cap) : PO P ρ o σ (.ms b (off + i.toNat * S) S (j.toNat - i.toNat) (cap - i.toNat)) := by
  refine PO_of (by rw [ho]; simp) fun g I a w hs => ?_
  have hv := hs.ev hx
  generalize hu : a.eval x = p at hv
  cases hv with
  | ms =>
    have hb := bounds_run (P := P) hs true len cap hl hh h0 h1 h2
    refine ⟨.slice (some ⟨b, off + i.toNat * S, none⟩) (j.toNat - i.toNat) (cap - i.toNat), ?_, .ms _ _ _ _ _⟩
    simp only [execOp, ho, hu, Instr.sliceAt, Instr.slice, Sem.run_bind, run_underlying ht, Result.andThen_ok, Option.map_none, hb, run_sizeOf' he, Sem.run_pure]
    by_cases hc1 : cap = i.toNat
    · have : i = 0 := by omega
      subst this
      simp only [Int.toNat_zero] at hc1
      subst hc1
      simp
    · rw [if_neg hc1, Option.map_some, add_plain ⟨b, off, none⟩ rfl]
theorem ghost_ms {b off S len cap k : Nat} {cs : List AV} {es : List (List AV)} (hk : look tm k = some (.ms b off S len cap)) (hb : h b = some (.row cs)) (hl : es.length = len) (he : ∀ e ∈ es, e.length = S) (hf : ∀ i e j a, es[i]? = some e → e[j]? = some a → cs[off + i * S + j]? = some a) (hc : len ≤ cap) :
    Ghost ⟨n, tm, h, ms, h0⟩ ⟨n, (k, .sl .any S es) :: tm, h.upd b none, ms, h0⟩ := by
  refine ghost_freeze (σ := ⟨n, tm, h, ms, h0⟩) (b := b) (cs := cs) hb fun q y hy => ?_
  rw [look_cons] at hy
  by_cases hq : k = q
  · rw [if_pos hq] at hy
    injection hy with hy
    subst hq; subst hy
    exact ⟨_, hk, .ms off S len cap es hl he hf hc⟩
  · rw [if_neg hq] at hy; exact ⟨y, hy, .refl _⟩
theorem AL_makeSl {t e : TypeId} {S by_ : Nat} {dd : TypeDesc} {x y : Operand} {c : Nat} {k k' : IntKind} {zs : List AV} (hg : o.guard = none) (hdst : o.dst = some d) (hd : Nat.blt d n = true) (ho : o.op = .makeSlice t x y) (ht : P.underlying t = some (.slice e)) (he : TyF P e dd S) (hz : ZeroF P e zs) (hzl : zs.length = S)
    (hb : (P.info? e).map (·.bytes) = some by_) (hx : ev tm x = some (.lit (.int k (c : Nat)))) (hy : ev tm y = some (.lit (.int k' (c : Nat)))) (hlim : by_ * c ≤ 281474976710656) (hc : c ≤ 9223372036854775807)
    (kk : ∀ b, h b = none → AL P ρ ops l Q ⟨n, (d, .ms b 0 S c c) :: tm, h.upd b (some (.row (azeros zs c))), ms, h0⟩) : AL P ρ ops (o :: l) Q ⟨n, tm, h, ms, h0⟩ :=
  AL_m hg hdst hd (MO_makeSlice ho ht he hz hzl hb hx hy (Nat.le_refl c) hlim hc) fun v h' ⟨b, hb, e1, e2⟩ => by subst e1; subst e2; exact kk b hb
end
end Go.AM
end
section
set_option linter.unusedVariables false
set_option linter.unusedSimpArgs false
namespace Go.AM
open Go.RowKit
section
variable {P : Program} {ρ : Option Nat} {Q : Exit → AS → Prop} {o : Oper} {ops : Array Oper} {l : List Oper} {n d : Nat} {tm : List (Nat × AV)} {h h0 : Heap} {ms : List Nat} {σ : AS}
theorem AL_storeF {y : Operand} {t : TypeId} {dd : TypeDesc} {m b k : Nat} {cs : List AV} {v : AV} (hg : o.guard = none) (hdst : o.dst = none) (ho : o.op = .store t (.tmp k) y) (ht : TyF P t dd m) (hx : look tm k = some (.ptr b 0)) (hy : ev tm y = some v) (hb : h b = none)
    (h1 : acell1 v = true) (hn : (acells v).length = m) (hle : cs.length = m) (kk : AL P ρ ops l Q ⟨n, (k, .ip (acells v)) :: tm, h, ms, h0⟩) : AL P ρ ops (o :: l) Q ⟨n, tm, h.upd b (some (.row cs)), ms, h0⟩ := by
  refine AL_store hg hdst ho ht hx hy (Heap.upd_same _ _ _) h1 hn (by omega) ?_
  have hset : setCells cs 0 (acells v) = acells v := by
    simp only [setCells, List.take_zero, List.nil_append, Nat.zero_add]
    rw [List.drop_of_length_le (by omega), List.append_nil]
  rw [hset, Heap.upd_upd]
  refine AL_ghost (σ' := ⟨n, (k, .ip (acells v)) :: tm, (h.upd b (some (.row (acells v)))).upd b none, ms, h0⟩) (ghost_freeze (σ := ⟨n, tm, h.upd b (some (.row (acells v))), ms, h0⟩) (b := b) (cs := acells v) (Heap.upd_same _ _ _) ?_) (by rw [Heap.upd_none hb]; exact kk)
  intro q y hq
  rw [look_cons] at hq
  by_cases hqd : k = q
  · rw [if_pos hqd] at hq
    injection hq with hq
    subst hq; subst hqd
    exact ⟨.ptr b 0, hx, by simpa using Frz.ptr (b := b) (cs := acells v) 0⟩
  · rw [if_neg hqd] at hq
    exact ⟨y, hq, .refl _⟩
end
theorem Results.two {P : Program} {fn : Func} {σ : AS} {v u : AV} {c t b off n s : Nat} {d : TypeDesc} {cs : List AV} (hr : fn.results = #[.cell c t, .tmp s]) (ht : TyF P t d n) (hc : look σ.tm c = some (.ptr b off)) (hb : σ.h b = some (.row cs)) (hl : loaded d n (cs.drop off) = some v) (hu : look σ.tm s = some u) : Results P fn σ (.tup [v, u]) := by
  intro g I a w hs w' hw
  have hp := hs.slot c _ hc
  have hs2 := hs.slot s _ hu
  generalize hq : a.tmps.getD c undef = p at hp
  cases hp with
  | ptr =>
    obtain ⟨uu, hcl, hc, hv⟩ := row_cells (hs.wr.obj b _ hb).2 off
    obtain ⟨y, h1, h2⟩ := load_cells (P := P) (I := I) (w := w') ht (ad := ⟨b, off, none⟩) rfl hcl (fun j a e => (hw _ _).trans (hc j a e)) hv hl
    refine ⟨.tuple #[y, a.tmps.getD s undef], ?_, .tup _ _ rfl fun i x hx => ?_⟩
    · rw [results_eq, hr]
      simp [resOne, hq, asAddr, h1]
    · rcases i with _ | _ | i
      · simp at hx; subst hx; exact h2
      · simp at hx; subst hx; exact hs2
      · simp at hx
theorem VR.ip_take {I : Imm} {cs : List AV} {u : Value} (k : Nat) (h : VR I (.ip cs) u) : VR I (.ip (cs.take k)) u := by
  cases h with
  | ip _ ad u hs hcl hc hv =>
    have hg : ∀ j a, (cs.take k)[j]? = some a → cs[j]? = some a := fun j a e => by
      rw [List.getElem?_take] at e; split at e
      · exact e
      · cases e
    exact .ip _ ad u hs (fun a ha => hcl a (List.mem_of_mem_take ha)) (fun j a e => hc j a (hg j a e)) (fun j a e => hv j a (hg j a e))
theorem PO_weak {P : Program} {ρ : Option Nat} {o : Oper} {σ : AS} {v u : AV} (hp : PO P ρ o σ v) (hw : ∀ I x, VR I v x → VR I u x) : PO P ρ o σ u := fun g I a w hs =>
  wpIn_oper_mono (hp g I a w hs) (fun a' w' ⟨I', x, h1, h2, h3, h4⟩ => ⟨I', x, h1, h2, hw _ _ h3, h4⟩) fun _ _ _ h => h
theorem PO_any {P : Program} {ρ : Option Nat} {o : Oper} {σ : AS} {own : Own} {S : Nat} {es es' : List (List AV)} (hp : PO P ρ o σ (.sl own S es)) (e : es = es') : PO P ρ o σ (.sl .any S es') := e ▸ PO_weak hp fun _ _ => VR.any
theorem AL_mapUpdG {P : Program} {ρ : Option Nat} {Q : Exit → AS → Prop} {o : Oper} {ops : Array Oper} {l : List Oper} {n : Nat} {tm : List (Nat × AV)} {h h0 : Heap} {ms : List Nat} {t kt et : TypeId} {m x y : Operand} {b : Nat} {ks : List CK} {agg : Bool} {es : List (List Value × AV)} {kv v : AV} {k : List Value} (hg : o.guard = none) (hdst : o.dst = none) (ho : o.op = .mapUpdate t m x y ∨ o.op = .insert t m x y) (ht : P.underlying t = some (.map kt et)) (hK : KeyF P kt agg ks)
    (hm : ev tm m = some (.mp b)) (hb : h b = some (.map ks agg es)) (hx : ev tm x = some kv) (hkv : akey agg kv = some k) (hk : kOks ks k = true) (hy : ev tm y = some v)
    (kk : AL P ρ ops l Q ⟨n, tm, h.upd b (some (.map ks agg (aput k v es))), ms, h0⟩) : AL P ρ ops (o :: l) Q ⟨n, tm, h, ms, h0⟩ :=
  AL_u hg hdst (MO_mapUpdate ho ht hK hm hb hx hkv hk hy) fun v h' ⟨_, e2⟩ => by subst e2; exact kk
theorem PO_eqA {P : Program} {ρ : Option Nat} {o : Oper} {σ : AS} {v u : AV} (hp : PO P ρ o σ v) (e : v = u) : PO P ρ o σ u := e ▸ hp
theorem vEqs_str (s t : ByteArray) : vEqs [.string s] [.string t] = decide (s = t) := by simp [vEqs, vEq]
theorem aget_aput_str {s t : ByteArray} {v : AV} : ∀ {es : List (List Value × AV)}, (∀ p ∈ es, ∃ q, p.1 = [Value.string q]) → aget [.string s] (aput [.string t] v es) = if s = t then some v else aget [.string s] es
  | [], _ => by simp only [aput, aget, vEqs_str]; by_cases e : s = t <;> simp [e]
  | p :: r, hk => by
    obtain ⟨q, hq⟩ := hk p (List.mem_cons_self ..)
    obtain ⟨p1, p2⟩ := p
    simp only at hq
    subst hq
    have ih := aget_aput_str (s := s) (t := t) (v := v) (es := r) (fun p hp => hk p (List.mem_cons_of_mem _ hp))
    simp only [aput, vEqs_str]
    by_cases e : t = q
    · subst e
      simp only [decide_true, aget, vEqs_str]
      by_cases e2 : s = t <;> simp [e2]
    · simp only [e, decide_false, aget, vEqs_str, ih]
      by_cases e2 : s = q
      · subst e2
        have : ¬ s = t := fun e3 => e e3.symm
        simp [this]
      · simp [e2]
theorem aput_keys {t : ByteArray} {v : AV} : ∀ {es : List (List Value × AV)}, (∀ p ∈ es, ∃ q, p.1 = [Value.string q]) → ∀ p ∈ aput [.string t] v es, ∃ q, p.1 = [Value.string q]
  | [], _ => by intro p hp; simp only [aput, List.mem_singleton] at hp; subst hp; exact ⟨t, rfl⟩
  | x :: r, hk => by
    intro p hp
    simp only [aput] at hp
    split at hp
    · rcases List.mem_cons.1 hp with rfl | hp
      · exact ⟨t, rfl⟩
      · exact hk p (List.mem_cons_of_mem _ hp)
    · rcases List.mem_cons.1 hp with rfl | hp
      · exact hk _ (List.mem_cons_self ..)
      · exact aput_keys (fun p hp => hk p (List.mem_cons_of_mem _ hp)) p hp
end Go.AM
end
section
set_option linter.unusedVariables false
set_option linter.unusedSimpArgs false
namespace Go.AM
open Go.RowKit
def drawOk2 (m : Nat) (l : List Oper) : Bool :=
  (l.zipIdx.all fun (o, i) => (Nat.blt i m || match o.guard with | none => true | some _ => false) && o.after.toList.all (fun e => !Region.binds .any e || Nat.blt e.on i) &&
    (match o.dst with | some d => (l.zipIdx.all fun (o', i') => Nat.beq i i' || (match o'.dst with | some d' => !Nat.beq d d' | none => true)) | none => true)) &&
  (List.range l.length).all fun i => Nat.blt i m || (match Nat.beq i m with | true => (List.range i).all (fun j => edgeB l i j) | false => edgeB l i (i - 1))
structure DrawF2 (m : Nat) (l : List Oper) : Prop where
  guard : ∀ (i : Nat) (o : Oper), m ≤ i → l[i]? = some o → o.guard = none
  back : ∀ (i : Nat) (o : Oper), l[i]? = some o → ∀ e ∈ o.after, Region.binds .any e = true → e.on < i
  once : ∀ (i j : Nat) (d : Nat), dstAt l i = some d → dstAt l j = some d → i = j
  tail : m < l.length → ∀ j, j < m → edgeB l m j = true
  tail2 : ∀ i, m < i → i < l.length → edgeB l i (i - 1) = true
theorem drawOk2_spec {m : Nat} {l : List Oper} (h : drawOk2 m l = true) : DrawF2 m l := by
  unfold drawOk2 at h
  simp only [Bool.and_eq_true] at h
  obtain ⟨h1, h2⟩ := h
  rw [List.all_eq_true] at h1 h2
  have key : ∀ (i : Nat) (o : Oper), l[i]? = some o → (o, i) ∈ l.zipIdx := by
    intro i o ho
    rw [List.mem_zipIdx_iff_getElem?]; exact ho
  refine ⟨fun i o hmi ho => ?_, fun i o ho e he hb => ?_, fun i j d hi hj => ?_, fun hm j hj => ?_, fun i hi hil => ?_⟩
  · have := h1 _ (key i o ho)
    simp only [Bool.and_eq_true, Bool.or_eq_true] at this
    obtain ⟨⟨g | g, _⟩, _⟩ := this
    · simp [Nat.blt] at g; omega
    split at g
    · assumption
    · cases g
  · have := h1 _ (key i o ho)
    simp only [Bool.and_eq_true] at this
    obtain ⟨⟨_, g⟩, _⟩ := this
    rw [List.all_eq_true] at g
    have := g e (by simpa using he)
    rw [hb] at this
    simp [Nat.blt] at this
    omega
  · unfold dstAt at hi hj
    obtain ⟨o, ho, hd⟩ := Option.bind_eq_some_iff.1 hi
    obtain ⟨o', ho', hd'⟩ := Option.bind_eq_some_iff.1 hj
    have := h1 _ (key i o ho)
    simp only [Bool.and_eq_true] at this
    obtain ⟨_, g⟩ := this
    rw [hd] at g
    simp only at g
    rw [List.all_eq_true] at g
    have := g _ (key j o' ho')
    rw [hd'] at this
    simp only [Bool.or_eq_true] at this
    rcases this with this | this
    · exact Nat.eq_of_beq_eq_true this
    · simp at this
  · have := h2 m (by simpa using hm)
    simp only [Bool.or_eq_true, Nat.beq_refl] at this
    rcases this with this | this
    · simp [Nat.blt] at this
      omega
    · rw [List.all_eq_true] at this
      exact this j (by simpa using hj)
  · have := h2 i (by simpa using hil)
    have hne : Nat.beq i m = false := by
      cases e : Nat.beq i m with
      | false => rfl
      | true => have := Nat.eq_of_beq_eq_true e; omega
    simp only [Bool.or_eq_true, hne] at this
    rcases this with this | this
    · simp [Nat.blt] at this
      omega
    · exact this
section
variable {P : Program} {ρ : Option Nat} {Q : Exit → AS → Prop} {σ : AS} {ops : Array Oper} {l : List Oper}
theorem any_of_seq2 (g : G) {m : Nat} (hl : ops.toList = l) (hd : DrawF2 m l) : ∀ (f k : Nat) (listed : Array Bool) (a : Act) (w : World), m ≤ k → k + f = ops.size → listed.size = ops.size → (∀ j, listed.getD j false = decide (j < k)) →
    wpOpsIn (WF ρ) 0 P ops (CQ g Q) (List.range' k f) a w → wpAnyIn (WF ρ) 0 P .any ops (CQ g Q) f listed a w := by
  have hsize : ops.size = l.length := by rw [← hl]; simp
  have hget : ∀ i, ops[i]? = l[i]? := fun i => by rw [← hl, Array.getElem?_toList]
  have hready : ∀ k listed, m ≤ k → listed.size = ops.size → (∀ j, listed.getD j false = decide (j < k)) → ∀ i ∈ Region.ready .any ops listed, i = k := by
    intro k listed hmk hsz hlist i hi
    obtain ⟨h1, o, ho, h2⟩ := mem_ready.1 hi
    have hilt : i < ops.size := (Array.getElem?_eq_some_iff.1 ho).1
    have hik : ¬ i < k := by
      intro h
      have h3 := hlist i
      rw [decide_eq_true h] at h3
      rw [Array.getD_eq_getD_getElem?, Array.getElem?_eq_getElem (by omega)] at h1 h3
      simp at h1 h3
      rw [h1] at h3; cases h3
    rcases Nat.lt_or_ge k i with hgt | hle
    · obtain ⟨o', ho', e, he, hb, hon⟩ := edgeB_spec (hd.tail2 i (by omega) (by omega))
      rw [hget] at ho
      rw [ho] at ho'
      injection ho' with ho'
      subst ho'
      have := h2 e he hb
      rw [hon, hlist (i - 1)] at this
      simp at this
      omega
    · omega
  intro f
  induction f with
  | zero =>
    intro k listed a w hmk hkf hsz hlist h
    refine ⟨?_, h⟩
    apply List.eq_nil_iff_forall_not_mem.2
    intro i hi
    have := hready k listed hmk hsz hlist i hi
    obtain ⟨h1, o, ho, h2⟩ := mem_ready.1 hi
    have hilt : i < ops.size := (Array.getElem?_eq_some_iff.1 ho).1
    omega
  | succ f ih =>
    intro k listed a w hmk hkf hsz hlist h
    have hk : k < ops.size := by omega
    have hkr : k ∈ Region.ready .any ops listed := by
      refine mem_ready.2 ⟨?_, _, Array.getElem?_eq_getElem hk, fun e he hb => ?_⟩
      · have := hlist k
        rw [Array.getD_eq_getD_getElem?, Array.getElem?_eq_getElem (by omega)] at this ⊢
        simpa using this
      · have := hd.back k _ (by rw [← hget]; exact Array.getElem?_eq_getElem hk) e he hb
        rw [hlist]; simpa using this
    refine ⟨fun h0 => (by rw [h0] at hkr; cases hkr), fun i hi => ?_⟩
    obtain rfl := hready k listed hmk hsz hlist i hi
    rw [List.range'_succ, wpOpsIn_cons] at h
    refine wpOpIn_mono (fun a' w' h' => ?_) h
    exact ih (i + 1) _ a' w' (by omega) (by omega) (by simpa using hsz) (fun j => by
      rw [listed_set (by omega), hlist]
      split
      · rename_i e; subst e; simp
      · rename_i e
        by_cases c : j < i
        · simp [c]; omega
        · simp [c]; omega) h'
theorem AW_region_draw1 {id : Nat} (m : Nat) (vals : List AV) (tm' : List (Nat × AV)) (K : Heap → Prop) (R : AV → Heap → Prop) {ox : Oper} {dx : Nat} {tmx : List (Nat × AV)} (hl : ops.toList = l) (hm : P.follows .mixedOrders = true) (hok : drawOk2 (m + 1) l = true) (hml : m + 1 ≤ l.length)
    (hx : l[m]? = some ox) (hdx : ox.dst = some dx) (hdxn : dx < σ.n) (hgx : ox.guard = none) (hK0 : K σ.h) (hneedx : ∀ p ∈ tmx, NeedB l σ.tm vals m p) (hMx : MO P ρ ox { σ with tm := tmx } R) (hRK : ∀ v h', R v h' → K h') (hvl : vals.length = m)
    (hdst : ∀ i o d, l[i]? = some o → i < m → o.dst = some d → d < σ.n)
    (steps : ∀ hh, K hh → ∀ i o, l[i]? = some o → i < m → ∃ tm v, vals[i]? = some v ∧ (∀ p ∈ tm, NeedB l σ.tm vals i p) ∧ StepB P ρ l o { σ with tm := tm, h := hh } v)
    (hknow : ∀ p ∈ tm', KnowB l σ.tm m vals p) (k : ∀ v h', R v h' → AL P ρ ops (l.drop (m + 1)) Q { σ with tm := (dx, v) :: tm', h := h' }) : AW P ρ (.region id ops true) Q σ := by
  intro g I a w hs0
  have hd := drawOk2_spec hok
  have hsize : ops.size = l.length := by rw [← hl]; simp
  have hget : ∀ i, ops[i]? = l[i]? := fun i => by rw [← hl, Array.getElem?_toList]
  have hdm : dstAt l m = some dx := by simp [dstAt, hx, hdx]
  refine wpIn_region_any hm ?_
  have key : ∀ (f : Nat) (listed : Array Bool) (I : Imm) (a : Act) (w : World) (hh : Heap), listed.size = ops.size → (listed.toList.filter (fun b => !b)).length = f →
      SR g I { σ with tm := [], h := hh } a w → K hh → ((hh = σ.h ∧ listed.getD m false = false) ∨ (∃ v, R v hh ∧ listed.getD m false = true ∧ VR I v (a.tmps.getD dx undef))) →
      (∀ k v, notDst l k = true → look σ.tm k = some v → VR I v (a.tmps.getD k undef)) →
      (∀ j d v, listed.getD j false = true → j < m → dstAt l j = some d → vals[j]? = some v → VR I v (a.tmps.getD d undef)) → (∀ j, m < j → listed.getD j false = false) →
      wpAnyIn (WF ρ) 0 P .any ops (CQ g Q) f listed a w := by
    intro f
    induction f with
    | zero =>
      intro listed I a w hh hsz hf hs hK hX hold hnew htail
      have hall : ∀ j, j < listed.size → listed.getD j false = true := by
        intro j hj
        have h0 := List.eq_nil_of_length_eq_zero hf
        have := List.filter_eq_nil_iff.1 h0 listed[j] (by simp)
        simp only [Bool.not_eq_true', Bool.not_eq_false] at this
        rw [Array.getD_eq_getD_getElem?, Array.getElem?_eq_getElem hj]
        simpa using this
      have hmn : m + 1 = ops.size := by
        rcases Nat.lt_or_ge (m + 1) ops.size with h | h
        · have := hall (m + 1) (by omega)
          rw [htail (m + 1) (by omega)] at this; cases this
        · omega
      rcases hX with ⟨-, h0⟩ | ⟨v, hR, -, hv⟩
      · rw [hall m (by omega)] at h0; cases h0
      have hslot : ∀ k u, look ((dx, v) :: tm') k = some u → VR I u (a.tmps.getD k undef) := by
        intro k u e
        rw [look_cons] at e
        split at e
        · rename_i hk; injection e with e; subst e; subst hk; exact hv
        · rcases hknow (k, u) (look_mem e) with ⟨j, h1, h2, h3⟩ | ⟨h1, h2⟩
          · exact hnew j k u (hall j (by omega)) h1 h2 h3
          · exact hold k u h1 h2
      have hmid : SR g I { σ with tm := (dx, v) :: tm', h := hh } a w := ⟨hs.le, hs.below, hs.base, hs.wr, hs.size, hslot, ⟨hs.marks.defs, hs.marks.nodup, hs.marks.here, hs.marks.keep, hs.marks.apart⟩⟩
      have hq := k v hh hR g I a w (List.range' (m + 1) 0) (by
        have : l.drop (m + 1) = [] := List.drop_of_length_le (by omega)
        rw [this]; rfl) hmid
      exact any_of_seq2 g hl hd 0 (m + 1) listed a w (Nat.le_refl _) (by omega) hsz (fun j => by
        rcases Nat.lt_or_ge j listed.size with h | h
        · rw [hall j h]; simp; omega
        · rw [Array.getD_eq_getD_getElem?, Array.getElem?_eq_none h]; simp; omega) hq
    | succ f ih =>
      intro listed I a w hh hsz hf hs hK hX hold hnew htail
      have hex : ∃ i, i < ops.size ∧ listed.getD i false = false := by
        have h0 : listed.toList.filter (fun b => !b) ≠ [] := by intro h; rw [h] at hf; simp at hf
        obtain ⟨b, hb⟩ := List.exists_mem_of_ne_nil _ h0
        rw [List.mem_filter] at hb
        obtain ⟨i, hi, e⟩ := List.mem_iff_getElem.1 hb.1
        refine ⟨i, by rw [← hsz]; simpa using hi, ?_⟩
        rw [Array.getD_eq_getD_getElem?, ← Array.getElem?_toList, List.getElem?_eq_getElem hi, e]
        simpa using hb.2
      obtain ⟨i0, ⟨hi0, hi0f⟩, hmin⟩ := exists_least hex
      have hr0 : i0 ∈ Region.ready .any ops listed := by
        refine mem_ready.2 ⟨?_, _, Array.getElem?_eq_getElem hi0, fun e he hb => ?_⟩
        · rw [Array.getD_eq_getD_getElem?, Array.getElem?_eq_getElem (by omega)] at hi0f ⊢
          simpa using hi0f
        · have hlt := hd.back i0 _ (by rw [← hget]; exact Array.getElem?_eq_getElem hi0) e he hb
          cases hc : listed.getD e.on false with
          | true => rfl
          | false => have := hmin e.on ⟨by omega, hc⟩; omega
      refine ⟨fun h => (by rw [h] at hr0; cases hr0), fun i hi => ?_⟩
      obtain ⟨h1, o, ho, h2⟩ := mem_ready.1 hi
      have hilt : i < ops.size := (Array.getElem?_eq_some_iff.1 ho).1
      have hif : listed.getD i false = false := by
        rw [Array.getD_eq_getD_getElem?, Array.getElem?_eq_getElem (by omega)] at h1 ⊢
        simpa using h1
      rw [hget] at ho
      have hdi : dstAt l i = o.dst := by simp [dstAt, ho]
      -- one fewer is left
      have hone : ((listed.setIfInBounds i true).toList.filter (fun b => !b)).length = f := by
        have hset : ∀ (bs : List Bool) (i : Nat), bs[i]? = some false → ((bs.set i true).filter (fun b => !b)).length + 1 = (bs.filter (fun b => !b)).length := by
          intro bs
          induction bs with
          | nil => intro i h; simp at h
          | cons b bs ih =>
            intro i h
            cases i with
            | zero => simp at h; subst h; simp
            | succ i =>
              have := ih i (by simpa using h)
              cases b <;> simp at this ⊢ <;> omega
        have hi' : listed.toList[i]? = some false := by
          rw [Array.getElem?_toList]
          rw [Array.getD_eq_getD_getElem?, Array.getElem?_eq_getElem (by omega)] at hif
          rw [Array.getElem?_eq_getElem (by omega)]
          simpa using hif
        have := hset listed.toList i hi'
        rw [Array.toList_setIfInBounds]
        omega
      -- what an operation that waits finds
      have hneeds : ∀ tm, (∀ p ∈ tm, NeedB l σ.tm vals i p) → i ≤ m → ∀ k v, look tm k = some v → VR I v (a.tmps.getD k undef) := by
        intro tm hneed him k u e
        rcases hneed (k, u) (look_mem e) with ⟨j, e1, e2, e3⟩ | ⟨e1, e2⟩
        · obtain ⟨o', ho', ed, hed, hb, hon⟩ := edgeB_spec e1
          rw [ho] at ho'
          injection ho' with ho'
          subst ho'
          have hlj := h2 ed hed hb
          rw [hon] at hlj
          have hji := hd.back i o ho ed hed hb
          exact hnew j k u hlj (by omega) e2 e3
        · exact hold k u e1 e2
      have hold' : ∀ I' u, I.le I' → ∀ k v, notDst l k = true → look σ.tm k = some v → VR I' v ((a.put o.dst u).tmps.getD k undef) := by
        intro I' u hle k x hk hx
        have hne := notDst_spec hk ho
        have := (hold k x hk hx).mono hle
        cases hdst' : o.dst with
        | none => exact this
        | some d =>
          have hdk : d ≠ k := fun e => hne (by rw [hdst', e])
          simpa [Act.put, Array.getD_eq_getD_getElem?, Array.getElem?_setIfInBounds, hdk] using this
      have hoth : ∀ I' u j d x, I.le I' → i ≠ j → dstAt l j = some d → VR I x (a.tmps.getD d undef) → VR I' x ((a.put o.dst u).tmps.getD d undef) := by
        intro I' u j d x hle hij hdj hx
        have := hx.mono hle
        cases hdst' : o.dst with
        | none => exact this
        | some d' =>
          have hdk : d' ≠ d := fun e => hij (hd.once i j d (by rw [hdi, hdst', e]) hdj)
          simpa [Act.put, Array.getD_eq_getD_getElem?, Array.getElem?_setIfInBounds, hdk] using this
      have hclear : ∀ I' u w' tm h', SR g I' { σ with tm := tm, h := h' } a w' → SR g I' { σ with tm := [], h := h' } (a.put o.dst u) w' := by
        intro I' u w' tm h' hs'
        cases hdst' : o.dst with
        | none => exact ⟨hs'.le, hs'.below, hs'.base, hs'.wr, hs'.size, fun k v e => (by cases e), ⟨hs'.marks.defs, hs'.marks.nodup, hs'.marks.here, hs'.marks.keep, hs'.marks.apart⟩⟩
        | some d =>
          refine ⟨hs'.le, hs'.below, hs'.base, hs'.wr, ?_, fun k v e => (by cases e), ⟨hs'.marks.defs, hs'.marks.nodup, hs'.marks.here, hs'.marks.keep, hs'.marks.apart⟩⟩
          have := hs'.size
          simpa [Act.put] using this
      by_cases him : i < m
      · obtain ⟨tm, v, hv, hneed, hpo⟩ := steps hh hK i o ho him
        have hslot := hneeds tm hneed (by omega)
        have hsi : SR g I { σ with tm := tm, h := hh } a w := ⟨hs.le, hs.below, hs.base, hs.wr, hs.size, hslot, ⟨hs.marks.defs, hs.marks.nodup, hs.marks.here, hs.marks.keep, hs.marks.apart⟩⟩
        suffices hcont : ∀ I' u w', I.le I' → VR I' v u → SR g I' { σ with tm := tm, h := hh } a w' → wpAnyIn (WF ρ) 0 P .any ops (CQ g Q) f (listed.setIfInBounds i true) (a.put o.dst u) w' by
          have hy : ∀ yes, GuardB l tm o yes → Region.wanted o (yielded ops a.tmps) = yes := by
            intro yes hG
            unfold GuardB at hG
            unfold Region.wanted
            split at hG
            · rename_i e; rw [e, hG]
            · rename_i j want e
              obtain ⟨t, hjt, hlt⟩ := hG
              obtain ⟨o', ho', ht⟩ := Option.bind_eq_some_iff.1 hjt
              rw [e]
              rcases hlt with ⟨b, hlt, hbw⟩ | ⟨hlt, rfl⟩
              · have hv := hslot t _ hlt
                have hlt' : t < a.tmps.size := by
                  rcases Nat.lt_or_ge t a.tmps.size with h | h
                  · exact h
                  · rw [Array.getD_eq_getD_getElem?, Array.getElem?_eq_none h] at hv
                    cases hv
                have hyl : yielded ops a.tmps j = some b := by
                  simp only [yielded, hget, ho', Option.bind_some, ht]
                  rw [Array.getD_eq_getD_getElem?, Array.getElem?_eq_getElem hlt'] at hv
                  rw [Array.getElem?_eq_getElem hlt']
                  simp only [Option.getD_some] at hv
                  generalize a.tmps[t] = u at hv
                  cases hv
                  rfl
                simp only [hyl]
                simpa using hbw
              · have hv := hslot t _ hlt
                have hu : a.tmps.getD t undef = .tuple #[] := by
                  generalize a.tmps.getD t undef = u at hv
                  cases hv with
                  | tup _ us hl _ => exact congrArg Value.tuple (Array.eq_empty_of_size_eq_zero hl)
                have hyl : yielded ops a.tmps j = none := by
                  simp only [yielded, hget, ho', Option.bind_some, ht]
                  rw [Array.getD_eq_getD_getElem?] at hu
                  cases hq : a.tmps[t]? with
                  | none => rfl
                  | some u => rw [hq] at hu; simp at hu; subst hu; rfl
                simp only [hyl]
                cases want <;> rfl
          simp only [wpOpIn, hget, ho]
          rcases hpo with ⟨hG, hpo⟩ | ⟨hG, rfl⟩
          · rw [if_pos (hy true hG)]
            refine wpIn_oper_mono (hpo g I a w hsi) ?_ (fun _ _ _ h => h.elim)
            rintro a' w' ⟨I', u, hle, rfl, hvu, hs'⟩
            exact hcont I' u w' hle hvu hs'
          · rw [if_neg (by rw [hy false hG]; simp)]
            exact ⟨fun _ _ => trivial, hcont I undef w (.refl _) (.tup [] #[] rfl (fun i a h => by simp at h)) hsi⟩
        intro I' u w' hle hvu hs'
        refine ih (listed.setIfInBounds i true) I' (a.put o.dst u) w' hh (by simpa using hsz) hone (hclear I' u w' tm hh hs') hK ?_ (hold' I' u hle) ?_ ?_
        · rw [listed_set (by omega), if_neg (by omega)]
          rcases hX with h | ⟨vx, hR, hl1, hvx⟩
          · exact .inl h
          · exact .inr ⟨vx, hR, hl1, hoth I' u m dx vx hle (by omega) hdm hvx⟩
        · intro j d x hj hjm hdj hxj
          rw [listed_set (by omega)] at hj
          by_cases hij : i = j
          · subst hij
            rw [hv] at hxj
            injection hxj with hxj
            subst hxj
            rw [hdi] at hdj
            have hdn := hdst i o d ho him hdj
            have hsz' : d < a.tmps.size := by rw [hs.size]; exact hdn
            simpa [hdj, Act.put, Array.getD_eq_getD_getElem?, Array.getElem?_setIfInBounds, hsz'] using hvu
          · rw [if_neg hij] at hj
            exact hoth I' u j d x hle hij hdj (hnew j d x hj hjm hdj hxj)
        · intro j hj
          rw [listed_set (by omega), if_neg (by omega)]
          exact htail j hj
      · by_cases hieq : i = m
        · -- the one that turns the heap
          subst hieq
          rw [hx] at ho
          injection ho with ho
          subst ho
          rcases hX with ⟨rfl, -⟩ | ⟨vx, -, hl1, -⟩
          · have hslot := hneeds tmx hneedx (Nat.le_refl _)
            have hsi : SR g I { σ with tm := tmx } a w := ⟨hs.le, hs.below, hs.base, hs.wr, hs.size, hslot, ⟨hs.marks.defs, hs.marks.nodup, hs.marks.here, hs.marks.keep, hs.marks.apart⟩⟩
            simp only [wpOpIn, hget, hx]
            rw [if_pos (by simp [Region.wanted, hgx])]
            refine wpIn_oper_mono (hMx g I a w hsi) ?_ (fun _ _ _ h => h.elim)
            rintro a' w' ⟨I', u, v, h', hle, rfl, hvu, hs', hR⟩
            refine ih (listed.setIfInBounds i true) I' (a.put ox.dst u) w' h' (by simpa using hsz) hone (hclear I' u w' tmx h' hs') (hRK v h' hR) (.inr ⟨v, hR, ?_, ?_⟩) (hold' I' u hle) ?_ ?_
            · rw [listed_set (by omega), if_pos rfl]
            · have hsz' : dx < a.tmps.size := by rw [hs.size]; exact hdxn
              simpa [hdx, Act.put, Array.getD_eq_getD_getElem?, Array.getElem?_setIfInBounds, hsz'] using hvu
            · intro j d x hj hjm hdj hxj
              rw [listed_set (by omega), if_neg (by omega)] at hj
              exact hoth I' u j d x hle (by omega) hdj (hnew j d x hj hjm hdj hxj)
            · intro j hj
              rw [listed_set (by omega), if_neg (by omega)]
              exact htail j hj
          · rw [hl1] at hif; cases hif
        · have him' : i = m + 1 := by
            rcases Nat.lt_or_ge (m + 1) i with h | h
            · obtain ⟨o', ho', e, he, hb, hon⟩ := edgeB_spec (hd.tail2 i h (by omega))
              rw [ho] at ho'
              injection ho' with ho'
              subst ho'
              have := h2 e he hb
              rw [hon, htail (i - 1) (by omega)] at this
              cases this
            · omega
          subst him'
          have hbefore : ∀ j, j < m + 1 → listed.getD j false = true := by
            intro j hj
            obtain ⟨o', ho', e, he, hb, hon⟩ := edgeB_spec (hd.tail (by omega) j hj)
            rw [ho] at ho'
            injection ho' with ho'
            subst ho'
            have := h2 e he hb
            rwa [hon] at this
          have hlist : ∀ j, listed.getD j false = decide (j < m + 1) := by
            intro j
            by_cases c : j < m + 1
            · rw [hbefore j c]; simp [c]
            · rw [htail j (by omega)]; simp [c]
          rcases hX with ⟨-, h0⟩ | ⟨v, hR, -, hv⟩
          · rw [hbefore m (by omega)] at h0; cases h0
          have hslot : ∀ k u, look ((dx, v) :: tm') k = some u → VR I u (a.tmps.getD k undef) := by
            intro k u e
            rw [look_cons] at e
            split at e
            · rename_i hk; injection e with e; subst e; subst hk; exact hv
            · rcases hknow (k, u) (look_mem e) with ⟨j, e1, e2, e3⟩ | ⟨e1, e2⟩
              · exact hnew j k u (hbefore j (by omega)) e1 e2 e3
              · exact hold k u e1 e2
          have hmid : SR g I { σ with tm := (dx, v) :: tm', h := hh } a w := ⟨hs.le, hs.below, hs.base, hs.wr, hs.size, hslot, ⟨hs.marks.defs, hs.marks.nodup, hs.marks.here, hs.marks.keep, hs.marks.apart⟩⟩
          have hcount : f + 1 = ops.size - (m + 1) := by
            have : ∀ (bs : List Bool) (i : Nat), i ≤ bs.length → (∀ j, bs[j]?.getD false = decide (j < i)) → (bs.filter (fun b => !b)).length = bs.length - i := by
              intro bs
              induction bs with
              | nil => intro i _ _; simp
              | cons b bs ih =>
                intro i hi h
                cases i with
                | zero =>
                  have h0 := h 0
                  simp at h0
                  subst h0
                  have := ih 0 (by omega) (fun j => by have := h (j + 1); simpa using this)
                  simp at this ⊢
                  omega
                | succ i =>
                  have h0 := h 0
                  simp at h0
                  subst h0
                  have := ih i (by simpa using hi) (fun j => by have := h (j + 1); simpa using this)
                  simp at this ⊢
                  omega
            have h3 := this listed.toList (m + 1) (by simp; omega) (fun j => by rw [Array.getElem?_toList, ← Array.getD_eq_getD_getElem?]; exact hlist j)
            rw [hf] at h3
            simpa [hsz] using h3
          have hq := k v hh hR g I a w (List.range' (m + 1) (ops.size - (m + 1))) (by
            apply List.ext_getElem
            · simp [hsize]
            · intro j h3 h4
              simp at h3 h4
              simp [hget, List.getElem?_eq_getElem (show m + 1 + j < l.length by omega)]) hmid
          have hany := any_of_seq2 g hl hd (f + 1) (m + 1) listed a w (Nat.le_refl _) (by omega) hsz hlist (by rw [hcount]; exact hq)
          exact hany.2 _ hi
  refine key ops.size (Array.replicate ops.size false) I a w.drew σ.h (by simp) (by simp) ?_ hK0 (.inl ⟨rfl, ?_⟩) ?_ ?_ ?_
  · have := hs0.drew
    exact ⟨this.le, this.below, this.base, this.wr, this.size, fun k v e => (by cases e), ⟨this.marks.defs, this.marks.nodup, this.marks.here, this.marks.keep, this.marks.apart⟩⟩
  · simp [Array.getD_eq_getD_getElem?, Array.getElem?_replicate]
    split <;> simp
  · exact fun k v _ h => hs0.slot k v h
  · intro j d v hj
    simp [Array.getD_eq_getD_getElem?, Array.getElem?_replicate] at hj
    split at hj <;> simp at hj
  · intro j _
    simp [Array.getD_eq_getD_getElem?, Array.getElem?_replicate]
    split <;> simp
theorem AW_draw1 {n : Nat} {tm : List (Nat × AV)} {h h0 : Heap} {ms : List Nat} {id : Nat} (m : Nat) (vals : List AV) (tm' : List (Nat × AV)) (K : Heap → Prop) (R : AV → Heap → Prop) {ox : Oper} {dx : Nat} {tmx : List (Nat × AV)} (hl : ops.toList = l) (hm : P.follows .mixedOrders = true) (hok : drawOk2 (m + 1) l = true) (hml : Nat.ble (m + 1) l.length = true)
    (hx : l[m]? = some ox) (hdx : ox.dst = some dx) (hdxn : Nat.blt dx n = true) (hgx : ox.guard = none) (hK0 : K h) (hneedx : NeedsB l tm vals m tmx) (hMx : MO P ρ ox ⟨n, tmx, h, ms, h0⟩ R) (hRK : ∀ v h', R v h' → K h') (hvl : vals.length = m)
    (hdst : ((l.take m).all fun o => match o.dst with | some d => Nat.blt d n | none => true) = true)
    (steps : ∀ hh, K hh → StepsB P ρ l ⟨n, tm, hh, ms, h0⟩ vals 0 (l.take m) vals) (hknow : KnowsB l tm m vals tm') (k : ∀ v h', R v h' → AL P ρ ops (l.drop (m + 1)) Q ⟨n, (dx, v) :: tm', h', ms, h0⟩) : AW P ρ (.region id ops true) Q ⟨n, tm, h, ms, h0⟩ := by
  refine AW_region_draw1 (σ := ⟨n, tm, h, ms, h0⟩) m vals tm' K R hl hm hok (Nat.le_of_ble_eq_true hml) hx hdx (by have h := hdxn; simp [Nat.blt] at h; show dx < n; omega) hgx hK0 hneedx.all hMx hRK hvl ?_ ?_ hknow.all k
  · intro i o d hi him hd
    rw [List.all_eq_true] at hdst
    have := hdst o (by
      rw [List.mem_iff_getElem?]
      exact ⟨i, by rw [List.getElem?_take, if_pos him]; exact hi⟩)
    rw [hd] at this
    simp [Nat.blt] at this
    show d < n
    omega
  · intro hh hK i o hi him
    obtain ⟨t, v, h1, h2, h3⟩ := (steps hh hK).get i o (by rw [List.getElem?_take, if_pos him]; exact hi)
    exact ⟨t, v, h1, by simpa using h2.all, h3⟩
end
end Go.AM
end
section
set_option linter.unusedVariables false
set_option linter.unusedSimpArgs false
namespace Go.AM
open Go.RowKit
section
variable {P : Program} {ρ : Option Nat} {Q : Exit → AS → Prop} {σ : AS} {o : Oper} {ops : Array Oper} {l : List Oper}
theorem zero_get {I : Imm} {z : Array Value} {zs : List AV} (hl : z.size = zs.length) (hv : ∀ i a, zs[i]? = some a → VR I a (z.getD i default)) (n i : Nat) (a : AV) (h : (azeros zs n)[i]? = some a) : ∃ v, (Builtin.zeroCells z n)[i]? = some v ∧ VR I a v := by
  have hlen : (azeros zs n).length = n * zs.length := by simp [azeros]
  have hi : i < n * zs.length := by rw [← hlen]; exact (List.getElem?_eq_some_iff.1 h).1
  have hsz : (Builtin.zeroCells z n).size = n * z.size := size_zeroCells ..
  have h1 := zero_cells (I := I) hl hv n i a h
  refine ⟨(Builtin.zeroCells z n)[i]'(by rw [hsz, hl]; exact hi), Array.getElem?_eq_getElem _, ?_⟩
  have e : (((Array.range (n * zs.length)).map (z[· % z.size]!)).getD i default) = (Builtin.zeroCells z n)[i]'(by rw [hsz, hl]; exact hi) := by
    rw [Array.getD_eq_getD_getElem?, Array.getElem?_eq_getElem (by simpa using hi)]
    simp [Builtin.zeroCells, hl]
  rw [← e]; exact h1
theorem MO_append_ms {s x : Operand} {t tx e e' : TypeId} {S bytes b k cap : Nat} {d : TypeDesc} {zs cs : List AV} {own' : Own} {xs : List (List AV)} (ho : o.op = .call { callee := .builtin .append, args := #[s, x], argTypes := #[t, tx] })
    (ht : P.underlying t = some (.slice e)) (htx : P.underlying tx = some (.slice e')) (he : TyF P e d S) (hz : ZeroF P e zs) (hzl : zs.length = S) (hb : (P.info? e).map (·.bytes) = some bytes)
    (hse : (ev σ.tm s = some (.ms b 0 S k cap) ∧ σ.h b = some (.row cs) ∧ cs.length = cap * S ∧ k ≤ cap) ∨ (∃ S0, ev σ.tm s = some (.sl .nil S0 []) ∧ cs = [] ∧ k = 0 ∧ cap = 0 ∧ σ.h b = none)) (hxe : ev σ.tm x = some (.sl own' S xs)) (hpos : 0 < xs.length)
    (hlim : (k + xs.length) * bytes ≤ 140737488355328) (h63 : k + xs.length ≤ 9223372036854775807) :
    MO P ρ o σ (fun u h' => ∃ b' cap' rest, u = .ms b' 0 S (k + xs.length) cap' ∧ (σ.h b' = none ∨ b' = b) ∧ h' = (σ.h.upd b none).upd b' (some (.row (cs.take (k * S) ++ xs.flatten ++ rest))) ∧ k + xs.length ≤ cap' ∧ (cs.take (k * S) ++ xs.flatten ++ rest).length = cap' * S ∧
      (rest = cs.drop ((k + xs.length) * S) ∨ ∃ r, rest = azeros zs r)) := by
  intro g I a w hs
  obtain ⟨z, z1, z2, z3, z4⟩ := run_zero hz I
  obtain ⟨i, hi, hib⟩ := Option.map_eq_some_iff.1 hb
  obtain ⟨i2, hi2, his⟩ := he.i
  obtain rfl : i = i2 := by rw [hi] at hi2; injection hi2
  obtain ⟨iz, zz, hz1, hz2, hz3, hz4⟩ := hz.z
  obtain rfl : i = iz := by rw [hi] at hz1; injection hz1
  have hzz : zz = z := by
    have := z1 w
    simp [zeroValue, typeInfo, hi, hz2] at this
    exact this
  subst hzz
  have hx := hs.ev hxe
  obtain ⟨news, hsrc, hxl, hxc, hxv⟩ := src_of_vr hs htx hx
  have hnl : news.length = xs.length * S := hsrc.newsLen
  have hxfl := flat_length hxl
  -- the row as it is
  have hrowf : σ.h b = none ∨ σ.h b = some (.row cs) := by
    rcases hse with ⟨-, h, -⟩ | ⟨_, -, -, -, -, h⟩
    · exact .inr h
    · exact .inl h
  have hlock : ∀ ob, σ.h b = some ob → ob.locked = false := by
    intro ob eb
    rcases hrowf with h | h
    · rw [h] at eb; cases eb
    · rw [h] at eb; cases eb; rfl
  -- the growing arm
  have grow : ∀ (base : Option Addr) (olds : List Value), a.eval s = .slice base k cap → (Builtin.firstCells S k (.slice base k cap)).run P w.drew = .ok olds.toArray w.drew → olds.length = k * S → (cs.take (k * S)).length = k * S →
      (∀ a ∈ cs, AV.cell a = true) → (∀ j a, (cs.take (k * S))[j]? = some a → VR I a (olds.getD j default)) → cap < k + xs.length →
      o.wpIn (WF ρ) 0 P a w (fun a' w' => ∃ I' u v h', I.le I' ∧ a' = a.put o.dst u ∧ VR I' v u ∧ SR g I' (σ.setH h') a w' ∧ ∃ b' cap' rest, v = .ms b' 0 S (k + xs.length) cap' ∧ (σ.h b' = none ∨ b' = b) ∧ h' = (σ.h.upd b none).upd b' (some (.row (cs.take (k * S) ++ xs.flatten ++ rest))) ∧ k + xs.length ≤ cap' ∧ (cs.take (k * S) ++ xs.flatten ++ rest).length = cap' * S ∧
      (rest = cs.drop ((k + xs.length) * S) ∨ ∃ r, rest = azeros zs r)) (fun _ _ _ => False) := by
    intro base olds hbase hold hol htl hecl hev hg
    have hrun := run_append_grow_src (P := P) w t tx o.type e i zz ht hi hz2 base k cap olds (by rw [his]; exact hold) (a.eval x) xs.length news (by rw [his]; exact hsrc) hg (Int.ofNat_le.2 h63)
      (by rw [hib]; exact growslice_fits hg hlim)
    have hcapge := grownCap_ge w (k + xs.length) cap e
    generalize hcap : grownCap w (k + xs.length) cap e = cap' at hrun hcapge
    generalize harr : ((olds ++ news).toArray ++ Builtin.zeroCells zz.cells (cap' - (k + xs.length))) = arr at hrun
    have hzlen : (azeros zs (cap' - (k + xs.length))).length = (cap' - (k + xs.length)) * S := by simp [azeros, hzl]
    have hrl : (cs.take (k * S) ++ xs.flatten ++ azeros zs (cap' - (k + xs.length))).length = cap' * S := by
      rw [List.length_append, List.length_append, htl, hxfl, hzlen, ← Nat.add_mul, ← Nat.add_mul]; congr 1; omega
    have hsz : arr.size = cap' * S := by
      rw [← harr, Array.size_append, List.size_toArray, List.length_append, size_zeroCells, hol, hnl, z2, hzl, ← Nat.add_mul, ← Nat.add_mul]; congr 1; omega
    have s1 := (hs.delObj b hlock).drew.alloc (.cells arr e)
    have hnew : (w.drew.alloc (.cells arr e)).heap[w.heap.size]? = some (.cells arr e (0, 0)) := heap_alloc_new w.drew _
    have hbn : (σ.setH (σ.h.upd b none)).h w.heap.size = none := by
      simp only [AS.setH, Heap.upd]; split
      · rfl
      · exact h_new hs
    have s2 := s1.setObj w.heap.size (.row (cs.take (k * S) ++ xs.flatten ++ azeros zs (cap' - (k + xs.length)))) hs.sz ⟨arr, e, hnew, by rw [hrl, hsz]; exact Nat.le_refl _, fun y hy => ?_, fun j y hy => ?_, I_new hs⟩ (fun ob eb => by rw [hbn] at eb; cases eb)
    · refine wpIn_of_run' (w' := w.drew.alloc (.cells arr e)) (u := .slice (some ⟨w.heap.size, 0, none⟩) (k + xs.length) cap') (by rw [ho]; simp) (by rw [exec_append ho, hbase, hrun]; rfl)
        ⟨I, _, _, _, .refl _, rfl, .ms w.heap.size 0 S (k + xs.length) cap', s2, w.heap.size, cap', azeros zs (cap' - (k + xs.length)), rfl, .inl (h_new hs), rfl, hcapge, hrl, .inr ⟨_, rfl⟩⟩
    · rw [List.mem_append, List.mem_append] at hy
      rcases hy with (hy | hy) | hy
      · exact hecl y (List.mem_of_mem_take hy)
      · obtain ⟨x', hx', hy'⟩ := List.mem_flatten.1 hy
        exact hxc x' hx' y hy'
      · exact azeros_cell z3 _ y hy
    · rw [Array.getD_eq_getD_getElem?, ← harr]
      by_cases c1 : j < k * S
      · rw [List.append_assoc, List.getElem?_append_left (by omega)] at hy
        rw [Array.getElem?_append_left (by rw [List.size_toArray, List.length_append]; omega), List.getElem?_toArray, List.getElem?_append_left (by omega), ← List.getD_eq_getElem?_getD]
        exact hev j y hy
      · by_cases c2 : j < k * S + xs.length * S
        · rw [List.getElem?_append_left (by rw [List.length_append]; omega), List.getElem?_append_right (by omega), htl] at hy
          rw [Array.getElem?_append_left (by rw [List.size_toArray, List.length_append]; omega), List.getElem?_toArray, List.getElem?_append_right (by omega), hol, ← List.getD_eq_getElem?_getD]
          exact hxv _ y hy
        · rw [List.getElem?_append_right (by rw [List.length_append]; omega), List.length_append, htl, hxfl] at hy
          rw [Array.getElem?_append_right (by rw [List.size_toArray, List.length_append]; omega), List.size_toArray, List.length_append, hol, hnl]
          obtain ⟨v, hv1, hv2⟩ := zero_get (I := I) (by rw [z2]) z4 _ _ y hy
          rw [hv1]; exact hv2
  rcases hse with ⟨hse, hrow, hcl, hkc⟩ | ⟨S0, hse, rfl, rfl, rfl, hbn⟩
  · have hv := hs.ev hse
    obtain ⟨hbase, arr, et, hw, hasz, hcell, hvr, hfree⟩ := hs.wr.obj b _ hrow
    generalize hev : a.eval s = sv at hv
    cases hv with
    | ms =>
      have hks : k * S ≤ cap * S := Nat.mul_le_mul_right _ hkc
      have htl : (cs.take (k * S)).length = k * S := by rw [List.length_take]; omega
      by_cases hroom : k + xs.length ≤ cap
      · have hqs : (k + xs.length) * S ≤ cap * S := Nat.mul_le_mul_right _ hroom
        have hfit : k * S + news.length ≤ arr.size := by rw [hnl, ← Nat.add_mul]; omega
        have hrun := run_append_room_row (P := P) w t tx o.type e i ht hi b k cap arr et hw (a.eval x) xs.length news (by rw [his]; exact hsrc) hroom (by rw [his]; exact hfit)
        rw [his] at hrun
        generalize harr' : (arr.toList.take (k * S) ++ news ++ arr.toList.drop (k * S + news.length)).toArray = arr' at hrun
        have hsz' : arr'.size = arr.size := by rw [← harr']; simp; omega
        have hw' : (w.setRow b arr').heap[b]? = some (.cells arr' et (0, 0)) := setRow_heap w b arr arr' et (0, 0) hw
        have s1 := (hs.delObj b hlock).setRow b hw arr' hbase (by simp [AS.setH]) (fun o' v h => by rw [hfree] at h; cases h)
        have hdl : (cs.drop ((k + xs.length) * S)).length = cap * S - (k + xs.length) * S := by rw [List.length_drop]; omega
        have hrl : (cs.take (k * S) ++ xs.flatten ++ cs.drop ((k + xs.length) * S)).length = cap * S := by
          rw [List.length_append, List.length_append, htl, hxfl, hdl, ← Nat.add_mul]; omega
        have s2 := s1.setObj b (.row (cs.take (k * S) ++ xs.flatten ++ cs.drop ((k + xs.length) * S))) hbase ⟨arr', et, hw', by rw [hrl, hsz']; omega, fun y hy => ?_, fun j y hy => ?_, hfree⟩ (fun ob eb => by simp [AS.setH] at eb)
        · refine wpIn_of_run' (w' := w.setRow b arr') (u := .slice (some ⟨b, 0, none⟩) (k + xs.length) cap) (by rw [ho]; simp) (by rw [exec_append ho, hev, hrun]; rfl)
            ⟨I, _, _, _, .refl _, rfl, .ms b 0 S (k + xs.length) cap, s2, b, cap, cs.drop ((k + xs.length) * S), rfl, .inr rfl, rfl, hroom, hrl, .inl rfl⟩
        · rw [List.mem_append, List.mem_append] at hy
          rcases hy with (hy | hy) | hy
          · exact hcell y (List.mem_of_mem_take hy)
          · obtain ⟨x', hx', hy'⟩ := List.mem_flatten.1 hy
            exact hxc x' hx' y hy'
          · exact hcell y (List.mem_of_mem_drop hy)
        · rw [Array.getD_eq_getD_getElem?, ← harr', List.getElem?_toArray]
          have e2 : (arr.toList.take (k * S)).length = k * S := by simp; omega
          by_cases c1 : j < k * S
          · rw [List.append_assoc, List.getElem?_append_left (by omega), List.getElem?_take, if_pos c1] at hy
            rw [List.append_assoc, List.getElem?_append_left (by omega), List.getElem?_take, if_pos c1, Array.getElem?_toList, ← Array.getD_eq_getD_getElem?]
            exact hvr j y hy
          · by_cases c2 : j < k * S + xs.length * S
            · rw [List.getElem?_append_left (by rw [List.length_append]; omega), List.getElem?_append_right (by omega), htl] at hy
              rw [List.getElem?_append_left (by rw [List.length_append]; omega), List.getElem?_append_right (by omega), e2, ← List.getD_eq_getElem?_getD]
              exact hxv _ y hy
            · rw [List.getElem?_append_right (by rw [List.length_append]; omega), List.length_append, htl, hxfl, List.getElem?_drop] at hy
              rw [List.getElem?_append_right (by rw [List.length_append]; omega), List.length_append, e2, hnl, List.getElem?_drop, Array.getElem?_toList, ← Array.getD_eq_getD_getElem?]
              have e3 : (k + xs.length) * S + (j - (k * S + xs.length * S)) = j := by rw [Nat.add_mul]; omega
              have e4 : k * S + xs.length * S + (j - (k * S + xs.length * S)) = j := by omega
              rw [e3] at hy; rw [e4]
              exact hvr j y hy
      · have hold : ∀ j, j < k * S → (arr.toList.take (k * S))[j]? = arr[j]? := fun j hj => by rw [List.getElem?_take, if_pos hj, Array.getElem?_toList]
        refine grow (some ⟨b, 0, none⟩) (arr.toList.take (k * S)) hev ?_ (by simp; omega) htl hcell (fun j y hy => ?_) (by omega)
        · refine run_firstCells_some w.drew S k ⟨b, 0, none⟩ k cap _ (by simp; omega) (fun j u hj => ?_)
          have hlt : j < k * S := by have := (List.getElem?_eq_some_iff.1 hj).1; simp at this; omega
          rw [hold j hlt] at hj
          rw [add_plain ⟨b, 0, none⟩ rfl]
          show w.drew.cell? ⟨b, 0 + j, none⟩ = some u
          rw [Nat.zero_add]
          have : w.cell? ⟨b, j, none⟩ = some u := by simpa [World.cell?, hw] using hj
          exact this
        · have hlt : j < k * S := by have := (List.getElem?_eq_some_iff.1 hy).1; rw [htl] at this; exact this
          rw [List.getElem?_take, if_pos hlt] at hy
          rw [List.getD_eq_getElem?_getD, hold j hlt, ← Array.getD_eq_getD_getElem?]
          exact hvr j y hy
  · have hv := hs.ev hse
    generalize hev : a.eval s = sv at hv
    cases hv with
    | slnil => exact grow none [] hev (by simp [Builtin.firstCells]) (by simp) (by simp) (by simp) (by simp) (by omega)
    | sl _ _ _ ad cap u ho' _ _ _ _ => exact ho'.2.2.elim
end
end Go.AM
end
section
set_option linter.unusedVariables false
set_option linter.unusedSimpArgs false
namespace Go.AM
open Go.RowKit
section
variable {P : Program} {ρ : Option Nat} {Q : Exit → AS → Prop} {σ : AS} {ops : Array Oper} {l : List Oper}
theorem AW_drawJ {id : Nat} (J : (Nat → Bool) → AS → Prop) (hl : ops.toList = l) (hm : P.follows .mixedOrders = true) (hok : drawOk2 l.length l = true) (h0 : J (fun _ => false) σ)
    (step : ∀ S σ' i o, J S σ' → l[i]? = some o → S i = false → (∀ j, edgeB l i j = true → S j = true) → o.guard = none ∧ dstOk σ'.n o.dst = true ∧ ∃ R, MO P ρ o σ' R ∧ ∀ v h', R v h' → J (fun j => if i = j then true else S j) ((σ'.setH h').putO o.dst v))
    (done : ∀ S σ', (∀ i, i < l.length → S i = true) → J S σ' → AL P ρ ops [] Q σ') : AW P ρ (.region id ops true) Q σ := by
  intro g I a w hs0
  have hd := drawOk2_spec hok
  have hsize : ops.size = l.length := by rw [← hl]; simp
  have hget : ∀ i, ops[i]? = l[i]? := fun i => by rw [← hl, Array.getElem?_toList]
  refine wpIn_region_any hm ?_
  have key : ∀ (f : Nat) (listed : Array Bool) (I : Imm) (a : Act) (w : World) (σ' : AS), listed.size = ops.size → (listed.toList.filter (fun b => !b)).length = f →
      SR g I σ' a w → J (fun j => listed.getD j false) σ' → wpAnyIn (WF ρ) 0 P .any ops (CQ g Q) f listed a w := by
    intro f
    induction f with
    | zero =>
      intro listed I a w σ' hsz hf hs hJ
      have hall : ∀ j, j < listed.size → listed.getD j false = true := by
        intro j hj
        have h0 := List.eq_nil_of_length_eq_zero hf
        have := List.filter_eq_nil_iff.1 h0 listed[j] (by simp)
        simp only [Bool.not_eq_true', Bool.not_eq_false] at this
        rw [Array.getD_eq_getD_getElem?, Array.getElem?_eq_getElem hj]
        simpa using this
      refine ⟨?_, done _ σ' (fun i hi => hall i (by omega)) hJ g I a w [] rfl hs⟩
      apply List.eq_nil_iff_forall_not_mem.2
      intro i hi
      obtain ⟨h1, o, ho, h2⟩ := mem_ready.1 hi
      have hilt : i < ops.size := (Array.getElem?_eq_some_iff.1 ho).1
      have := hall i (by omega)
      rw [Array.getD_eq_getD_getElem?, Array.getElem?_eq_getElem (by omega)] at h1 this
      simp at h1 this
      rw [h1] at this; cases this
    | succ f ih =>
      intro listed I a w σ' hsz hf hs hJ
      have hex : ∃ i, i < ops.size ∧ listed.getD i false = false := by
        have h0 : listed.toList.filter (fun b => !b) ≠ [] := by intro h; rw [h] at hf; simp at hf
        obtain ⟨b, hb⟩ := List.exists_mem_of_ne_nil _ h0
        rw [List.mem_filter] at hb
        obtain ⟨i, hi, e⟩ := List.mem_iff_getElem.1 hb.1
        refine ⟨i, by rw [← hsz]; simpa using hi, ?_⟩
        rw [Array.getD_eq_getD_getElem?, ← Array.getElem?_toList, List.getElem?_eq_getElem hi, e]
        simpa using hb.2
      obtain ⟨i0, ⟨hi0, hi0f⟩, hmin⟩ := exists_least hex
      have hr0 : i0 ∈ Region.ready .any ops listed := by
        refine mem_ready.2 ⟨?_, _, Array.getElem?_eq_getElem hi0, fun e he hb => ?_⟩
        · rw [Array.getD_eq_getD_getElem?, Array.getElem?_eq_getElem (by omega)] at hi0f ⊢
          simpa using hi0f
        · have hlt := hd.back i0 _ (by rw [← hget]; exact Array.getElem?_eq_getElem hi0) e he hb
          cases hc : listed.getD e.on false with
          | true => rfl
          | false => have := hmin e.on ⟨by omega, hc⟩; omega
      refine ⟨fun h => (by rw [h] at hr0; cases hr0), fun i hi => ?_⟩
      obtain ⟨h1, o, ho, h2⟩ := mem_ready.1 hi
      have hilt : i < ops.size := (Array.getElem?_eq_some_iff.1 ho).1
      have hif : listed.getD i false = false := by
        rw [Array.getD_eq_getD_getElem?, Array.getElem?_eq_getElem (by omega)] at h1 ⊢
        simpa using h1
      rw [hget] at ho
      have hone : ((listed.setIfInBounds i true).toList.filter (fun b => !b)).length = f := by
        have hset : ∀ (bs : List Bool) (i : Nat), bs[i]? = some false → ((bs.set i true).filter (fun b => !b)).length + 1 = (bs.filter (fun b => !b)).length := by
          intro bs
          induction bs with
          | nil => intro i h; simp at h
          | cons b bs ih =>
            intro i h
            cases i with
            | zero => simp at h; subst h; simp
            | succ i =>
              have := ih i (by simpa using h)
              cases b <;> simp at this ⊢ <;> omega
        have hi' : listed.toList[i]? = some false := by
          rw [Array.getElem?_toList]
          rw [Array.getD_eq_getD_getElem?, Array.getElem?_eq_getElem (by omega)] at hif
          rw [Array.getElem?_eq_getElem (by omega)]
          simpa using hif
        have := hset listed.toList i hi'
        rw [Array.toList_setIfInBounds]
        omega
      obtain ⟨hg, hdo, R, hmo, hR⟩ := step _ σ' i o hJ ho hif (fun j hj => by
        obtain ⟨o', ho', ed, hed, hb, hon⟩ := edgeB_spec hj
        rw [ho] at ho'
        injection ho' with ho'
        subst ho'
        rw [← hon]; exact h2 ed hed hb)
      simp only [wpOpIn, hget, ho]
      rw [if_pos (by simp [Region.wanted, hg])]
      have hao : AO P ρ o (fun σ'' => J (fun j => if i = j then true else listed.getD j false) σ'') (fun _ _ => False) σ' := by
        intro g I a w hs
        refine wpIn_oper_mono (hmo.ao (Q := fun _ _ => False) hdo g I a w hs) ?_ fun _ _ _ h => h
        rintro a' w' ⟨I', σ'', hs'', v, h', rfl, hRv⟩
        exact ⟨I', _, hs'', hR v h' hRv⟩
      refine wpIn_oper_mono (hao g I a w hs) ?_ (fun _ _ _ h => (by obtain ⟨_, _, _, h⟩ := h; exact h.elim))
      rintro a' w' ⟨I', σ'', hs'', hJ''⟩
      refine ih (listed.setIfInBounds i true) I' a' w' σ'' (by simpa using hsz) hone hs'' ?_
      have : (fun j => (listed.setIfInBounds i true).getD j false) = fun j => if i = j then true else listed.getD j false := by
        funext j; exact listed_set (by omega)
      rw [this]; exact hJ''
  exact key _ (Array.replicate ops.size false) I a _ σ (by simp) (by simp) hs0.drew (by
    have : (fun j => (Array.replicate ops.size false).getD j false) = fun _ => false := by
      funext j
      rw [Array.getD_eq_getD_getElem?, Array.getElem?_replicate]
      split <;> rfl
    rw [this]; exact h0)
theorem MO_sub {n : Nat} {tm1 tm2 : List (Nat × AV)} {h h0 : Heap} {ms : List Nat} {o : Oper} {R : AV → Heap → Prop} (hsub : ∀ k v, look tm1 k = some v → look tm2 k = some v) (hp : MO P ρ o ⟨n, tm1, h, ms, h0⟩ R) : MO P ρ o ⟨n, tm2, h, ms, h0⟩ R := by
  intro g I a w hs
  have hs1 : SR g I ⟨n, tm1, h, ms, h0⟩ a w := ⟨hs.le, hs.below, hs.base, hs.wr, hs.size, fun k v e => hs.slot k v (hsub k v e), ⟨hs.marks.defs, hs.marks.nodup, hs.marks.here, hs.marks.keep, hs.marks.apart⟩⟩
  refine wpIn_oper_mono (hp g I a w hs1) ?_ fun _ _ _ h => h
  rintro a' w' ⟨I', u, v, h', hle, rfl, hv, hs', hR⟩
  exact ⟨I', u, v, h', hle, rfl, hv, ⟨hs'.le, hs'.below, hs'.base, hs'.wr, hs'.size, fun k v e => (hs.slot k v e).mono hle, ⟨hs'.marks.defs, hs'.marks.nodup, hs'.marks.here, hs'.marks.keep, hs'.marks.apart⟩⟩, hR⟩
end
def plainB (Eff : List Nat) (Cop : List (Nat × Nat)) (i : Nat) : Bool := !(Eff.any (Nat.beq i)) && !(Cop.any fun p => Nat.beq i p.1)
def NeedE (l : List Oper) (pl : Nat → Bool) (tm : List (Nat × AV)) (vals : List AV) (i : Nat) (p : Nat × AV) : Prop :=
  (∃ j, edgeB l i j = true ∧ pl j = true ∧ dstAt l j = some p.1 ∧ vals[j]? = some p.2) ∨ (notDst l p.1 = true ∧ look tm p.1 = some p.2)
def NeedsE (l : List Oper) (pl : Nat → Bool) (tm : List (Nat × AV)) (vals : List AV) (i : Nat) : List (Nat × AV) → Prop
  | [] => True
  | p :: r => NeedE l pl tm vals i p ∧ NeedsE l pl tm vals i r
theorem NeedsE.all {l : List Oper} {pl : Nat → Bool} {tm : List (Nat × AV)} {vals : List AV} {i : Nat} : ∀ {tmx : List (Nat × AV)}, NeedsE l pl tm vals i tmx → ∀ p ∈ tmx, NeedE l pl tm vals i p
  | [], _, p, h => by cases h
  | q :: r, hn, p, h => by
    rcases List.mem_cons.1 h with rfl | h
    · exact hn.1
    · exact NeedsE.all hn.2 p h
def StepsE (P : Program) (ρ : Option Nat) (l : List Oper) (pl : Nat → Bool) (σ : AS) (vals : List AV) : Nat → List Oper → List AV → Prop
  | i, o :: r, v :: vs => (pl i = false ∨ ∃ tm, NeedsE l pl σ.tm vals i tm ∧ PO P ρ o ⟨σ.n, tm, σ.h, σ.ms, σ.h0⟩ v) ∧ StepsE P ρ l pl σ vals (i + 1) r vs
  | _, _, _ => True
theorem StepsE.get {P : Program} {ρ : Option Nat} {l : List Oper} {pl : Nat → Bool} {σ : AS} {vals : List AV} : ∀ {os : List Oper} {vs : List AV} {i : Nat}, os.length = vs.length → StepsE P ρ l pl σ vals i os vs → ∀ k o, os[k]? = some o → pl (i + k) = true → ∃ tm v, vs[k]? = some v ∧ NeedsE l pl σ.tm vals (i + k) tm ∧ PO P ρ o ⟨σ.n, tm, σ.h, σ.ms, σ.h0⟩ v
  | [], _, _, _, _, k, o, h, _ => by simp at h
  | o' :: r, [], _, hl, _, _, _, _, _ => by simp at hl
  | o' :: r, v :: vs, i, hl, hs, k, o, h, hp => by
    cases k with
    | zero =>
      simp at h; subst h
      rcases hs.1 with h1 | ⟨tm, h1, h2⟩
      · rw [Nat.add_zero] at hp; rw [h1] at hp; cases hp
      · exact ⟨tm, v, rfl, h1, h2⟩
    | succ k =>
      have := StepsE.get (by simpa using hl) hs.2 k o (by simpa using h) (by rwa [show i + 1 + k = i + (k + 1) by omega])
      rwa [show i + 1 + k = i + (k + 1) by omega] at this
def copB (l : List Oper) (Eff : List Nat) (p : Nat × Nat) : Bool := match l[p.1]?, Eff[p.2]? with
  | some o, some e => edgeB l p.1 e && (match o.op with | .assign (.tmp s) => (match dstAt l e with | some d => Nat.beq s d | none => false) | _ => false)
  | _, _ => false
def effB (xs : List (Option AV)) (j : Nat) : Bool := match xs[j]? with | some (some _) => true | _ => false
theorem effB_rep (m j : Nat) : effB (List.replicate m none) j = false := by
  unfold effB
  rw [List.getElem?_replicate]
  by_cases c : j < m
  · rw [if_pos c]
  · rw [if_neg c]
section
variable {P : Program} {ρ : Option Nat} {Q : Exit → AS → Prop} {ops : Array Oper} {l : List Oper}
structure EJ (l : List Oper) (Eff : List Nat) (Cop : List (Nat × Nat)) (K : List (Option AV) → Heap → Prop) (vals : List AV) (n : Nat) (tm : List (Nat × AV)) (ms : List Nat) (h0 : Heap) (S : Nat → Bool) (σ : AS) (xs : List (Option AV)) : Prop where
  n : σ.n = n
  ms : σ.ms = ms
  h0 : σ.h0 = h0
  len : xs.length = Eff.length
  K : K xs σ.h
  ran : ∀ (j e : Nat), Eff[j]? = some e → S e = effB xs j
  eff : ∀ (j e d : Nat) (v : AV), Eff[j]? = some e → xs[j]? = some (some v) → dstAt l e = some d → look σ.tm d = some v
  cop : ∀ (i j d : Nat), (i, j) ∈ Cop → S i = true → dstAt l i = some d → ∃ v, xs[j]? = some (some v) ∧ look σ.tm d = some v
  keep : ∀ k v, notDst l k = true → look tm k = some v → look σ.tm k = some v
  pv : ∀ (i d : Nat) (v : AV), plainB Eff Cop i = true → S i = true → dstAt l i = some d → vals[i]? = some v → look σ.tm d = some v
theorem plain_eff {Eff : List Nat} {Cop : List (Nat × Nat)} {i j : Nat} (h : plainB Eff Cop i = true) (hj : Eff[j]? = some i) : False := by
  simp only [plainB, Bool.and_eq_true, Bool.not_eq_true'] at h
  have := List.any_eq_false.1 h.1 i (List.mem_of_getElem? hj)
  simp at this
theorem plain_cop {Eff : List Nat} {Cop : List (Nat × Nat)} {i j : Nat} (h : plainB Eff Cop i = true) (hj : (i, j) ∈ Cop) : False := by
  simp only [plainB, Bool.and_eq_true, Bool.not_eq_true'] at h
  have := List.any_eq_false.1 h.2 _ hj
  simp at this
theorem AW_drawE {n : Nat} {tm : List (Nat × AV)} {h h0 : Heap} {ms : List Nat} {id : Nat} (Eff : List Nat) (Cop : List (Nat × Nat)) (vals : List AV) (tm' : List (Nat × AV)) (K : List (Option AV) → Heap → Prop) (tmF : List AV → List (Nat × AV))
    (hl : ops.toList = l) (hm : P.follows .mixedOrders = true) (hok : drawOk2 l.length l = true) (hgd : (l.all fun o => o.guard.isNone && dstOk n o.dst) = true) (hnd : (Eff.zipIdx.all fun (e, i) => Eff.zipIdx.all fun (e', i') => Nat.beq i i' || !Nat.beq e e') = true) (hvl : vals.length = l.length)
    (hdis : (Cop.all fun p => copB l Eff p && !(Eff.any (Nat.beq p.1))) = true) (hcnd : (Cop.zipIdx.all fun (e, i) => Cop.zipIdx.all fun (e', i') => Nat.beq i i' || !Nat.beq e.1 e'.1) = true)
    (hK0 : K (List.replicate Eff.length none) h)
    (steps : ∀ xs hh, K xs hh → StepsE P ρ l (plainB Eff Cop) ⟨n, tm, hh, ms, h0⟩ vals 0 l vals)
    (effs : ∀ (j e : Nat), Eff[j]? = some e → ∃ o tmx, l[e]? = some o ∧ NeedsE l (plainB Eff Cop) tm vals e tmx ∧ ∀ xs hh, K xs hh → xs.length = Eff.length → xs[j]? = some none → (∀ j' e', Eff[j']? = some e' → edgeB l e e' = true → effB xs j' = true) → MO P ρ o ⟨n, tmx, hh, ms, h0⟩ (fun v h' => K (xs.set j (some v)) h'))
    (hknow : ∀ p ∈ tm', (∃ j, plainB Eff Cop j = true ∧ dstAt l j = some p.1 ∧ vals[j]? = some p.2) ∨ (notDst l p.1 = true ∧ look tm p.1 = some p.2))
    (hF : ∀ vs : List AV, vs.length = Eff.length → ∀ p ∈ tmF vs, ∃ j, vs[j]? = some p.2 ∧ ((∃ e, Eff[j]? = some e ∧ dstAt l e = some p.1) ∨ (∃ i, (i, j) ∈ Cop ∧ dstAt l i = some p.1)))
    (k : ∀ vs hh, vs.length = Eff.length → K (vs.map some) hh → AL P ρ ops [] Q ⟨n, tmF vs ++ tm', hh, ms, h0⟩) : AW P ρ (.region id ops true) Q ⟨n, tm, h, ms, h0⟩ := by
  have hd := drawOk2_spec hok
  have hnd' : ∀ (i j e : Nat), Eff[i]? = some e → Eff[j]? = some e → i = j := by
    intro i j e hi hj
    have h1 := List.all_eq_true.1 hnd (e, i) (List.mem_zipIdx_iff_getElem?.2 hi)
    have h2 := List.all_eq_true.1 h1 (e, j) (List.mem_zipIdx_iff_getElem?.2 hj)
    simp only [Nat.beq_refl, Bool.not_true, Bool.or_false] at h2
    exact Nat.eq_of_beq_eq_true h2
  have hcnd' : ∀ (i j j' : Nat), (i, j) ∈ Cop → (i, j') ∈ Cop → j = j' := by
    intro i j j' hi hj
    obtain ⟨a, ha⟩ := List.mem_iff_getElem?.1 hi
    obtain ⟨b, hb⟩ := List.mem_iff_getElem?.1 hj
    have h1 := List.all_eq_true.1 hcnd ((i, j), a) (List.mem_zipIdx_iff_getElem?.2 ha)
    have h2 := List.all_eq_true.1 h1 ((i, j'), b) (List.mem_zipIdx_iff_getElem?.2 hb)
    simp only [Nat.beq_refl, Bool.not_true, Bool.or_false] at h2
    have := Nat.eq_of_beq_eq_true h2
    subst this
    rw [ha] at hb; injection hb with hb; injection hb with _ hb
  have hgk : ∀ (i : Nat) (o : Oper), l[i]? = some o → o.guard = none ∧ dstOk n o.dst = true := by
    intro i o ho
    have := List.all_eq_true.1 hgd o (List.mem_of_getElem? ho)
    simp only [Bool.and_eq_true, Option.isNone_iff_eq_none] at this
    exact this
  refine AW_drawJ (fun S σ' => ∃ xs, EJ l Eff Cop K vals n tm ms h0 S σ' xs) hl hm hok ?_ ?_ ?_
  · refine ⟨_, rfl, rfl, rfl, List.length_replicate, hK0, fun j e hj => ?_, fun j e d v hj hx => ?_, fun i j d _ h => (by cases h), fun k v _ h => h, fun i d v _ h => (by cases h)⟩
    · exact (effB_rep _ _).symm
    · rw [List.getElem?_replicate] at hx
      split at hx <;> cases hx
  · rintro S σ' i o ⟨xs, hJ⟩ ho hSi hpre
    obtain ⟨n', tm2, hh, ms', h0'⟩ := σ'
    obtain rfl : n' = n := hJ.n
    obtain rfl : ms' = ms := hJ.ms
    obtain rfl : h0' = h0 := hJ.h0
    obtain ⟨hg1, hd1⟩ := hgk i o ho
    have hdi : dstAt l i = o.dst := by simp [dstAt, ho]
    have hneed : ∀ tmx, NeedsE l (plainB Eff Cop) tm vals i tmx → ∀ k v, look tmx k = some v → look tm2 k = some v := by
      intro tmx hn k v e
      rcases hn.all (k, v) (look_mem e) with ⟨j, e1, e2, e3, e4⟩ | ⟨e1, e2⟩
      · exact hJ.pv j k v e2 (hpre j e1) e3 e4
      · exact hJ.keep k v e1 e2
    -- what was told stays told
    have hold : ∀ (d : Nat) (v u : AV), o.dst ≠ some d → look tm2 d = some v → look (AS.putO ⟨n', tm2, hh, ms', h0'⟩ o.dst u).tm d = some v := by
      intro d v u hne hlk
      cases hdst' : o.dst with
      | none => exact hlk
      | some d' =>
        show look ((d', u) :: tm2) d = some v
        rw [look_cons, if_neg (fun e => hne (by rw [hdst', e]))]; exact hlk
    have hput : ∀ (d : Nat) (u : AV), o.dst = some d → look (AS.putO ⟨n', tm2, hh, ms', h0'⟩ o.dst u).tm d = some u := by
      intro d u e
      rw [e]
      show look ((d, u) :: tm2) d = some u
      rw [look_cons, if_pos rfl]
    have hoth : ∀ (j d : Nat), j ≠ i → dstAt l j = some d → o.dst ≠ some d := by
      intro j d hji hj e
      exact hji (hd.once j i d hj (by rw [hdi, e]))
    have hkeep : ∀ (k : Nat), notDst l k = true → o.dst ≠ some k := fun k hk => notDst_spec hk ho
    have htmh : ∀ (h' : Heap) (u : AV), (((⟨n', tm2, hh, ms', h0'⟩ : AS).setH h').putO o.dst u).tm = (AS.putO ⟨n', tm2, hh, ms', h0'⟩ o.dst u).tm := by
      intro h' u; cases o.dst <;> rfl
    refine ⟨hg1, hd1, ?_⟩
    by_cases hE : ∃ j : Nat, Eff[j]? = some i
    · obtain ⟨j, hj⟩ := hE
      obtain ⟨o', tmx, ho', hn, hmo⟩ := effs j i hj
      rw [ho] at ho'; injection ho' with ho'; subst ho'
      have hjl : j < xs.length := by rw [hJ.len]; exact (List.getElem?_eq_some_iff.1 hj).1
      have hxj : xs[j]? = some none := by
        have := hJ.ran j i hj
        rw [hSi] at this
        unfold effB at this
        rw [List.getElem?_eq_getElem hjl] at this ⊢
        cases hx : xs[j] with
        | none => rfl
        | some v => rw [hx] at this; cases this
      refine ⟨_, MO_sub (hneed tmx hn) (hmo xs hh hJ.K hJ.len hxj (fun j' e' he' hed => by rw [← hJ.ran j' e' he']; exact hpre e' hed)), fun v h' hK' => ⟨xs.set j (some v), ?_⟩⟩
      have hn' : (((⟨n', tm2, hh, ms', h0'⟩ : AS).setH h').putO o.dst v).n = n' := by cases o.dst <;> rfl
      have hm' : (((⟨n', tm2, hh, ms', h0'⟩ : AS).setH h').putO o.dst v).ms = ms' := by cases o.dst <;> rfl
      have hh' : (((⟨n', tm2, hh, ms', h0'⟩ : AS).setH h').putO o.dst v).h0 = h0' := by cases o.dst <;> rfl
      have hH' : (((⟨n', tm2, hh, ms', h0'⟩ : AS).setH h').putO o.dst v).h = h' := by cases o.dst <;> rfl
      refine ⟨hn', hm', hh', by rw [List.length_set, hJ.len], by rw [hH']; exact hK', fun j' e he => ?_, fun j' e d u he hx hde => ?_, fun i' j' d hc hS hdc => ?_, fun k u hk e => ?_, fun i' d u hp hS hdp hv => ?_⟩
      · by_cases hjj : j = j'
        · subst hjj
          rw [hj] at he; injection he with he; subst he
          simp [effB, List.getElem?_set_self hjl]
        · rw [if_neg (fun e' => hjj (hnd' j j' i hj (by rw [he, e']))), hJ.ran j' e he]
          unfold effB
          rw [List.getElem?_set_ne hjj]
      · rw [htmh]
        by_cases hjj : j = j'
        · subst hjj
          rw [hj] at he; injection he with he; subst he
          rw [List.getElem?_set_self hjl] at hx
          injection hx with hx; injection hx with hx; subst hx
          exact hput d v (by rw [← hdi]; exact hde)
        · rw [List.getElem?_set_ne hjj] at hx
          exact hold d u v (hoth e d (fun e' => hjj (hnd' j j' i hj (by rw [he, e']))) hde) (hJ.eff j' e d u he hx hde)
      · have hne : i' ≠ i := by
          rintro rfl
          have := List.all_eq_true.1 hdis _ hc
          simp only [Bool.and_eq_true, Bool.not_eq_true'] at this
          have := List.any_eq_false.1 this.2 i' (List.mem_of_getElem? hj)
          simp at this
        rw [if_neg (fun e => hne e.symm)] at hS
        obtain ⟨u, hu, hlk⟩ := hJ.cop i' j' d hc hS hdc
        have hjj : j ≠ j' := by rintro rfl; rw [hxj] at hu; cases hu
        exact ⟨u, by rw [List.getElem?_set_ne hjj]; exact hu, by rw [htmh]; exact hold d u v (hoth i' d hne hdc) hlk⟩
      · rw [htmh]; exact hold k u v (hkeep k hk) (hJ.keep k u hk e)
      · have hne : i' ≠ i := by rintro rfl; exact plain_eff hp hj
        rw [if_neg (fun e => hne e.symm)] at hS
        rw [htmh]; exact hold d u v (hoth i' d hne hdp) (hJ.pv i' d u hp hS hdp hv)
    · have hnE : ∀ (j e : Nat), Eff[j]? = some e → i ≠ e := by rintro j e hj rfl; exact hE ⟨j, hj⟩
      -- a pure one: some value v
      have hpure : ∃ v, PO P ρ o ⟨n', tm2, hh, ms', h0'⟩ v ∧ (∀ j, (i, j) ∈ Cop → xs[j]? = some (some v)) ∧ (plainB Eff Cop i = true → ∀ u, vals[i]? = some u → v = u) := by
        by_cases hC : ∃ j, (i, j) ∈ Cop
        · obtain ⟨j, hc⟩ := hC
          have hcb := List.all_eq_true.1 hdis _ hc
          simp only [Bool.and_eq_true] at hcb
          have hcb := hcb.1
          unfold copB at hcb
          rw [show (i, j).1 = i from rfl, show (i, j).2 = j from rfl, ho] at hcb
          split at hcb
          · rename_i o' e ho' he
            injection ho' with ho'; subst ho'
            rw [Bool.and_eq_true] at hcb
            obtain ⟨hed, hcb⟩ := hcb
            have hran := hJ.ran j e he
            rw [hpre e hed] at hran
            unfold effB at hran
            split at hran
            · rename_i v hxv
              split at hcb
              · rename_i s hop
                split at hcb
                · rename_i d hde
                  have := Nat.eq_of_beq_eq_true hcb
                  subst this
                  refine ⟨v, PO_assign hop (hJ.eff j e s v he hxv hde), fun j' hc' => (by rw [hcnd' i j' j hc' hc]; exact hxv), fun hp => (plain_cop hp hc).elim⟩
                · cases hcb
              · cases hcb
            · cases hran
          · cases hcb
        · have hp : plainB Eff Cop i = true := by
            simp only [plainB, Bool.and_eq_true, Bool.not_eq_true', List.any_eq_false]
            refine ⟨fun e he h => ?_, fun q hq h => ?_⟩
            · have := Nat.eq_of_beq_eq_true h
              subst this
              obtain ⟨j, hj⟩ := List.mem_iff_getElem?.1 he
              exact hE ⟨j, hj⟩
            · have := Nat.eq_of_beq_eq_true h
              exact hC ⟨q.2, by rw [this]; exact hq⟩
          obtain ⟨tmx, v, hv, hn, hpo⟩ := (steps xs hh hJ.K).get hvl.symm i o ho (by rw [Nat.zero_add]; exact hp)
          rw [Nat.zero_add] at hn
          refine ⟨v, ?_, fun j hc => (hC ⟨j, hc⟩).elim, fun _ u hu => (by rw [hv] at hu; injection hu)⟩
          intro g I a w hs
          refine wpIn_oper_mono (MO_sub (hneed tmx hn) hpo.mo g I a w hs) ?_ fun _ _ _ h => h
          rintro a' w' ⟨I', u, v', h', k1, k2, k3, k4, rfl, rfl⟩
          exact ⟨I', u, k1, k2, k3, k4⟩
      obtain ⟨v, hpo, hvc, hvp⟩ := hpure
      refine ⟨_, hpo.mo, ?_⟩
      rintro v' h' ⟨rfl, rfl⟩
      refine ⟨xs, ?_⟩
      have hn' : (((⟨n', tm2, h', ms', h0'⟩ : AS).setH h').putO o.dst v').n = n' := by cases o.dst <;> rfl
      have hm' : (((⟨n', tm2, h', ms', h0'⟩ : AS).setH h').putO o.dst v').ms = ms' := by cases o.dst <;> rfl
      have hh' : (((⟨n', tm2, h', ms', h0'⟩ : AS).setH h').putO o.dst v').h0 = h0' := by cases o.dst <;> rfl
      have hH' : (((⟨n', tm2, h', ms', h0'⟩ : AS).setH h').putO o.dst v').h = h' := by cases o.dst <;> rfl
      refine ⟨hn', hm', hh', hJ.len, by rw [hH']; exact hJ.K, fun j' e he => ?_, fun j' e d u he hx hde => ?_, fun i' j' d hc hS hdc => ?_, fun k u hk e => ?_, fun i' d u hp hS hdp hv => ?_⟩
      · rw [if_neg (hnE j' e he)]; exact hJ.ran j' e he
      · rw [htmh]; exact hold d u v' (hoth e d (fun e' => hnE j' e he e'.symm) hde) (hJ.eff j' e d u he hx hde)
      · by_cases hii : i' = i
        · subst hii
          exact ⟨v', hvc j' hc, by rw [htmh]; exact hput d v' (by rw [← hdi]; exact hdc)⟩
        · rw [if_neg (fun e => hii e.symm)] at hS
          obtain ⟨u, hu, hlk⟩ := hJ.cop i' j' d hc hS hdc
          exact ⟨u, hu, by rw [htmh]; exact hold d u v' (hoth i' d hii hdc) hlk⟩
      · rw [htmh]; exact hold k u v' (hkeep k hk) (hJ.keep k u hk e)
      · by_cases hii : i' = i
        · subst hii
          rw [htmh, ← hvp hp u hv]; exact hput d v' (by rw [← hdi]; exact hdp)
        · rw [if_neg (fun e => hii e.symm)] at hS
          rw [htmh]; exact hold d u v' (hoth i' d hii hdp) (hJ.pv i' d u hp hS hdp hv)
  · rintro S σ' hall ⟨xs, hJ⟩
    obtain ⟨n', tm2, hh, ms', h0'⟩ := σ'
    obtain rfl : n' = n := hJ.n
    obtain rfl : ms' = ms := hJ.ms
    obtain rfl : h0' = h0 := hJ.h0
    have hsome : ∀ j, j < xs.length → ∃ v, xs[j]? = some (some v) := by
      intro j hj
      have hj' : j < Eff.length := by rw [← hJ.len]; exact hj
      have h1 := hJ.ran j _ (List.getElem?_eq_getElem hj')
      have hel : Eff[j] < l.length := by
        obtain ⟨o, tmx, ho, _⟩ := effs j _ (List.getElem?_eq_getElem hj')
        exact (List.getElem?_eq_some_iff.1 ho).1
      rw [hall _ hel] at h1
      unfold effB at h1
      split at h1
      · rename_i v hv; exact ⟨v, hv⟩
      · cases h1
    have hvs : ∃ vs : List AV, xs = vs.map some := by
      clear hJ hall
      induction xs with
      | nil => exact ⟨[], rfl⟩
      | cons x xs ih =>
        obtain ⟨v, hv⟩ := hsome 0 (by simp)
        obtain ⟨vs, rfl⟩ := ih fun j hj => by
          obtain ⟨u, hu⟩ := hsome (j + 1) (by simpa using hj)
          exact ⟨u, by simpa using hu⟩
        exact ⟨v :: vs, by simp at hv; rw [hv]; rfl⟩
    obtain ⟨vs, rfl⟩ := hvs
    have hlen : vs.length = Eff.length := by rw [← hJ.len, List.length_map]
    refine AL_ghost (Sub.mk_ (tm' := tmF vs ++ tm') fun p hp => ?_).ghost (k vs hh hlen hJ.K)
    rcases List.mem_append.1 hp with hp | hp
    · obtain ⟨j, hj, ⟨e, he, hde⟩ | ⟨i, hc, hdc⟩⟩ := hF vs hlen p hp
      · exact hJ.eff j e p.1 p.2 he (by rw [List.getElem?_map, hj]; rfl) hde
      · have hil : i < l.length := by
          unfold dstAt at hdc
          obtain ⟨o, ho, _⟩ := Option.bind_eq_some_iff.1 hdc
          exact (List.getElem?_eq_some_iff.1 ho).1
        obtain ⟨v, hv, hlk⟩ := hJ.cop i j p.1 hc (hall i hil) hdc
        rw [List.getElem?_map, hj] at hv
        injection hv with hv; injection hv with hv
        rw [hv]; exact hlk
    · rcases hknow p hp with ⟨j, e1, e2, e3⟩ | ⟨e1, e2⟩
      · have hil : j < l.length := by
          unfold dstAt at e2
          obtain ⟨o, ho, _⟩ := Option.bind_eq_some_iff.1 e2
          exact (List.getElem?_eq_some_iff.1 ho).1
        exact hJ.pv j p.1 p.2 e1 (hall j hil) e2 e3
      · exact hJ.keep p.1 p.2 e1 e2
end
end Go.AM
end
section
set_option linter.unusedVariables false
set_option linter.unusedSimpArgs false
namespace Go.AM
open Go.RowKit
structure TyI (P : Program) (t : TypeId) where
  d : TypeDesc
  n : Nat
  ok : TyF P t d n
structure FlI (P : Program) (s f : Nat) where
  off : Nat
  t : TypeId
  T : TyI P t
  ok : FieldF P s f off t
structure SlI (P : Program) (t : TypeId) where
  e : TypeId
  T : TyI P e
  ok : P.underlying t = some (.slice e)
structure ArI (P : Program) (t : TypeId) where
  N : Nat
  e : TypeId
  T : TyI P e
  ok : P.underlying t = some (.array N e)
abbrev TM := List (Nat × AV)
def opSlots (o : Op) : List Nat := o.operands.toList.filterMap fun x => match x with | .tmp t => some t | _ => none
def needL (tm : TM) : List Nat → TM
  | [] => []
  | s :: r => match look tm s with
    | some v => (s, v) :: needL tm r
    | none => needL tm r
def need (o : Op) (tm : TM) : TM := needL tm (opSlots o)
theorem look_needL {tm : TM} {s : Nat} : ∀ {l : List Nat}, s ∈ l → look (needL tm l) s = look tm s
  | [], h => by cases h
  | k :: r, h => by
    simp only [needL]
    by_cases hk : k = s
    · subst hk
      cases hv : look tm k with
      | some v => simp only [look_cons, if_pos]
      | none =>
        simp only
        by_cases hm : k ∈ r
        · rw [look_needL hm, hv]
        · have : ∀ l : List Nat, k ∉ l → look (needL tm l) k = none := by
            intro l
            induction l with
            | nil => intro _; rfl
            | cons q r ih =>
              intro hq
              simp only [needL]
              split
              · rw [look_cons, if_neg (fun e => hq (by rw [e]; exact List.mem_cons_self ..)), ih (fun h => hq (List.mem_cons_of_mem _ h))]
              · exact ih (fun h => hq (List.mem_cons_of_mem _ h))
          exact this r hm
    · have hm : s ∈ r := by 
        rcases List.mem_cons.1 h with h | h
        · exact absurd h.symm hk
        · exact h
      split
      · rw [look_cons, if_neg hk, look_needL hm]
      · exact look_needL hm
theorem need_sub {tm : TM} {l : List Nat} : ∀ {k : Nat} {v : AV}, look (needL tm l) k = some v → look tm k = some v := by
  intro k v
  induction l with
  | nil => intro h; cases h
  | cons q r ih =>
    intro h
    simp only [needL] at h
    split at h
    · rename_i u hu
      rw [look_cons] at h
      split at h
      · rename_i hq; injection h with h; subst hq; subst h; exact hu
      · exact ih h
    · exact ih h
theorem ev_need {o : Op} {tm : TM} {x : Operand} (h : x ∈ o.operands) : ev (need o tm) x = ev tm x := by
  cases x with
  | tmp t =>
    refine look_needL ?_
    rw [opSlots, List.mem_filterMap]
    exact ⟨.tmp t, by simpa using h, rfl⟩
  | const v => rfl
  | func f => rfl
  | global g => rfl
theorem PO_up {P : Program} {ρ : Option Nat} {o : Oper} {q : Op} {n : Nat} {tm : TM} {h h0 : Heap} {ms : List Nat} {v : AV} (hp : PO P ρ o ⟨n, need q tm, h, ms, h0⟩ v) : PO P ρ o ⟨n, tm, h, ms, h0⟩ v := by
  intro g I a w hs
  obtain ⟨I2, hs2⟩ := (Sub.ghost (σ := ⟨n, tm, h, ms, h0⟩) (σ' := ⟨n, need q tm, h, ms, h0⟩) ⟨rfl, rfl, rfl, rfl, fun k v e => need_sub e⟩) g I a w hs
  have hs3 : SR g I ⟨n, need q tm, h, ms, h0⟩ a w := ⟨hs.le, hs.below, hs.base, hs.wr, hs.size, fun k v e => hs.slot k v (need_sub e), ⟨hs.marks.defs, hs.marks.nodup, hs.marks.here, hs.marks.keep, hs.marks.apart⟩⟩
  refine wpIn_oper_mono (hp g I a w hs3) ?_ (fun _ _ _ h => h)
  rintro a' w' ⟨I', u, k1, k2, k3, k4⟩
  exact ⟨I', u, k1, k2, k3, ⟨k4.le, k4.below, k4.base, k4.wr, k4.size, fun k v e => (hs.slot k v e).mono k1, ⟨k4.marks.defs, k4.marks.nodup, k4.marks.here, k4.marks.keep, k4.marks.apart⟩⟩⟩
def Fit (op : BinOp) (k k' : IntKind) (i j z : Int) : Prop := k = k' ∧ intOp op k i j = some (.int k z) ∧ divSafe op j
def FitS (op : BinOp) (k : IntKind) (i j z : Int) : Prop := shOp op k i j = some (.int k z) ∧ 0 ≤ j
def cmpOp : BinOp → Int → Int → Option Bool
  | .eql, x, y => some (decide (x = y))
  | .neq, x, y => some (decide (x ≠ y))
  | .lss, x, y => some (decide (x < y))
  | .leq, x, y => some (decide (x ≤ y))
  | .gtr, x, y => some (decide (x > y))
  | .geq, x, y => some (decide (x ≥ y))
  | _, _, _ => none
def isShift : BinOp → Bool
  | .shl | .shr => true
  | _ => false
def boolOp : BinOp → Bool → Bool → Option Bool
  | .eql, p, q => some (p == q)
  | .neq, p, q => some (!(p == q))
  | _, _, _ => none
def kEq : IntKind → IntKind → Bool := fun a b => decide (a = b)
def AE (P : Program) (t : TypeId) (op : BinOp) (cs ds : List AV) (B : Bool) : Prop :=
  ∃ ks us vs, EqT P 10000 t true ks ∧ P.eqGuardType P.depth t = false ∧ lits cs = some us ∧ lits ds = some vs ∧ kOks ks us = true ∧ kOks ks vs = true ∧
    ((op = .eql ∧ vEqs us vs = B) ∨ (op = .neq ∧ (!vEqs us vs) = B))
section
variable (P : Program) (ρ : Option Nat) (n : Nat) (h : Heap) (ms : List Nat) (h0 : Heap)
def XG (o : Oper) (tm : TM) (K : AV → Prop) : Prop := ∃ v, PO P ρ o ⟨n, need o.op tm, h, ms, h0⟩ v ∧ K v
def XB (o : Oper) (op : BinOp) (t : TypeId) (u v : Option AV) (tm : TM) (K : AV → Prop) : Prop :=
  match u, v with
  | some (.lit (.int k i)), some (.lit (.int k' j)) => match cmpOp op i j with
    | some b => match kEq k k' with
      | true => K (.lit (.bool b))
      | false => False
    | none => match isShift op with
      | true => ∃ z, FitS op k i j z ∧ K (.lit (.int k z))
      | false => ∃ z, Fit op k k' i j z ∧ K (.lit (.int k z))
  | some (.lit (.string a)), some (.lit (.string b)) => match strOp op a b with
    | some v => K (.lit v)
    | none => match op with
      | .add => a.size + b.size ≤ 9223372036854775807 ∧ K (.lit (.string (a ++ b)))
      | _ => False
  | some (.lit (.bool a)), some (.lit (.bool b)) => match boolOp op a b with
    | some v => P.underlying t = some .bool ∧ K (.lit (.bool v))
    | none => False
  | some (.agg cs), some (.agg ds) => ∃ B, AE P t op cs ds B ∧ K (.lit (.bool B))
  | _, _ => XG P ρ n h ms h0 o tm K
def XO (o : Oper) (tm : TM) (K : AV → Prop) (S : Prop) : Prop :=
  match o.op with
  | .move x | .assign x => match x with
    | .const (.slice none 0 0) => ∃ S : Nat, K (.sl .nil S [])
    | .const c => match ofConst c with
      | .lit v => K (.lit v)
      | v => K v
    | x => match ev tm x with
      | some v => K v
      | none => False
  | .pick c x y => match ev tm c with
    | some (.lit (.bool true)) => match ev tm x with
      | some v => K v
      | none => False
    | some (.lit (.bool false)) => match ev tm y with
      | some v => K v
      | none => False
    | _ => False
  | .nilCheck x => match ev tm x with
    | some (.ip cs) => K (.ip cs)
    | some (.ptr b k) => K (.ptr b k)
    | _ => XG P ρ n h ms h0 o tm K
  | .load t x => match ev tm x with
    | some (.ip cs) => ∃ T : TyI P t, match loaded T.d T.n cs with
      | some v => K v
      | none => False
    | some (.ptr b k) => ∃ (T : TyI P t) (cs : List AV) (v : AV), (h b = some (.row cs) ∧ loaded T.d T.n (cs.drop k) = some v) ∧ K v
    | _ => XG P ρ n h ms h0 o tm K
  | .fieldAddr s x f => match ev tm x with
    | some (.ip cs) => ∃ F : FlI P s f, K (.ip (cs.drop F.off))
    | some (.ptr b k) => ∃ F : FlI P s f, K (.ptr b (k + F.off))
    | _ => XG P ρ n h ms h0 o tm K
  | .field s x f => match ev tm x with
    | some (.agg cs) => ∃ F : FlI P s f, match loaded F.T.d F.T.n (cs.drop F.off) with
      | some v => K v
      | none => False
    | _ => XG P ρ n h ms h0 o tm K
  | .indexAddr t x ix => match ev tm x, ev tm ix with
    | some (.sl own S es), some (.lit (.int k i)) => ∃ (T : SlI P t) (e : List AV), (T.T.n = S ∧ 0 ≤ i ∧ es[i.toNat]? = some e) ∧ K (.ip e)
    | some (.ip cs), some (.lit (.int k i)) => ∃ T : ArI P t, (0 ≤ i ∧ i < T.N) ∧ K (.ip (cs.drop (i.toNat * T.T.n)))
    | some (.ms b off S len cap), some (.lit (.int k i)) => ∃ (T : SlI P t) (q : Nat), (T.T.n = S ∧ 0 ≤ i ∧ i < len ∧ off + i.toNat * S = q) ∧ K (.ptr b q)
    | some (.ptr b off), some (.lit (.int k i)) => ∃ (T : ArI P t) (q : Nat), (0 ≤ i ∧ i < T.N ∧ off + i.toNat * T.T.n = q) ∧ K (.ptr b q)
    | _, _ => False
  | .index t x ix => match ev tm x, ev tm ix with
    | some (.lit (.string s)), some (.lit (.int k i)) => ∃ c : UInt8, (P.underlying t = some .string ∧ 0 ≤ i ∧ s[i.toNat]? = some c) ∧ K (.lit (.int .u8 c.toNat))
    | some (.agg cs), some (.lit (.int k i)) => ∃ T : ArI P t, (0 ≤ i ∧ i < T.N) ∧ match loaded T.T.d T.T.n (cs.drop (i.toNat * T.T.n)) with
      | some v => K v
      | none => False
    | _, _ => False
  | .extract x i => match ev tm x with
    | some (.tup vs) => match vs[i]? with
      | some v => K v
      | none => False
    | _ => False
  | .binOp op t x y _ => XB P ρ n h ms h0 o op t (ev tm x) (ev tm y) tm K
  | .unOp .not _ x => match ev tm x with
    | some (.lit (.bool b)) => K (.lit (.bool (!b)))
    | _ => False
  | .box _ x => match ev tm x with
    | some (.agg cs) => K (.ip cs)
    | some (.lit v) => v.oneCell' = true ∧ K (.ip [.lit v])
    | some (.sl a b c) => K (.ip [.sl a b c])
    | _ => XG P ρ n h ms h0 o tm K
  | .call c => match c.callee with
    | .builtin .len => match c.args.toList, c.argTypes.toList with
      | [x], [t] => match ev tm x with
        | some (.sl own S es) => ∃ (T : SlI P t) (m : Nat), es.length = m ∧ K (.lit (.int .i64 m))
        | some (.ms b off S len cap) => ∃ T : SlI P t, K (.lit (.int .i64 len))
        | some (.lit (.string s)) => P.underlying t = some .string ∧ K (.lit (.int .i64 s.size))
        | _ => XG P ρ n h ms h0 o tm K
      | _, _ => False
    | .builtin .min | .builtin .max => XG P ρ n h ms h0 o tm K
    | .value f => match ev tm f, oargs tm c.args.toList with
      | some fv, some vs => ∃ v, PFn P fv vs v ∧ K v
      | _, _ => False
    | _ => S
  | .build .. | .buildSlice .. | .makeFunc .. | .lookup .. | .slice .. | .unOp .. | .convert .. => XG P ρ n h ms h0 o tm K
  | _ => S
end
section
variable {P : Program} {ρ : Option Nat} {n : Nat} {h : Heap} {ms : List Nat} {h0 : Heap} {o : Oper} {tm : TM} {K : AV → Prop} {S : Prop}
theorem ev_o {q : Op} (hq : o.op = q) {x : Operand} {v : AV} (hx : x ∈ q.operands) (e : ev tm x = some v) : ev (need o.op tm) x = some v := by
  rw [hq]; rw [ev_need hx]; exact e
theorem oargs_o {q : Op} (hq : o.op = q) : ∀ {xs : List Operand} {vs : List AV}, (∀ x ∈ xs, x ∈ q.operands) → oargs tm xs = some vs → oargs (need o.op tm) xs = some vs
  | [], vs, _, e => e
  | x :: r, vs, hx, e => by
    simp only [oargs] at e ⊢
    split at e
    · rename_i v ws hv hws
      simp only [Option.some.injEq] at e
      subst e
      rw [ev_o hq (hx x (List.mem_cons_self ..)) hv, oargs_o hq (fun y hy => hx y (List.mem_cons_of_mem _ hy)) hws]
    · cases e
theorem XB_sound {op : BinOp} {t t' : TypeId} {x y : Operand} (ho : o.op = .binOp op t x y t') (hx : XB P ρ n h ms h0 o op t (ev tm x) (ev tm y) tm K) : ∃ v, PO P ρ o ⟨n, need o.op tm, h, ms, h0⟩ v ∧ K v := by
  have e1 : ∀ {v}, ev tm x = some v → ev (need o.op tm) x = some v := fun e => ev_o ho (by simp [Op.operands]) e
  have e2 : ∀ {v}, ev tm y = some v → ev (need o.op tm) y = some v := fun e => ev_o ho (by simp [Op.operands]) e
  unfold XB at hx
  split at hx
  · rename_i k i k' j hu hv
    split at hx
    · rename_i b hc
      split at hx
      · rename_i hk
        have hk' := of_decide_eq_true hk
        subst hk'
        refine ⟨_, PO_int (v := .bool b) ho (e1 hu) (e2 hv) ?_ ?_, hx⟩
        · cases op <;> simp [cmpOp, intOp] at hc ⊢ <;> exact hc
        · cases op <;> simp [cmpOp, divSafe] at hc ⊢
      · exact hx.elim
    · split at hx
      · obtain ⟨z, hf, hK⟩ := hx
        exact ⟨_, PO_shift ho (e1 hu) (e2 hv) hf.1 hf.2, hK⟩
      · obtain ⟨z, ⟨rfl, hf⟩, hK⟩ := hx
        exact ⟨_, PO_int ho (e1 hu) (e2 hv) hf.1 hf.2, hK⟩
  · rename_i a b hu hv
    split at hx
    · rename_i v hs
      exact ⟨_, PO_str ho (e1 hu) (e2 hv) hs, hx⟩
    · split at hx
      · exact ⟨_, PO_concat ho (e1 hu) (e2 hv) hx.1, hx.2⟩
      · exact hx.elim
  · rename_i a b hu hv
    split at hx
    · rename_i v hb
      cases op <;> simp only [boolOp, reduceCtorEq, Option.some.injEq] at hb
      · subst hb; exact ⟨_, PO_boolEq ho hx.1 (e1 hu) (e2 hv), hx.2⟩
      · subst hb; exact ⟨_, PO_boolNe ho hx.1 (e1 hu) (e2 hv), hx.2⟩
    · exact hx.elim
  · rename_i cs ds hu hv
    obtain ⟨B, ⟨ks, us, vs, k1, k2, k3, k4, k5, k6, k7⟩, hK⟩ := hx
    rcases k7 with ⟨rfl, rfl⟩ | ⟨rfl, rfl⟩
    · exact ⟨_, PO_aggEq ho k1 k2 (e1 hu) (e2 hv) k3 k4 k5 k6, hK⟩
    · exact ⟨_, PO_aggNe ho k1 k2 (e1 hu) (e2 hv) k3 k4 k5 k6, hK⟩
  · exact hx
theorem XO_sound (hx : XO P ρ n h ms h0 o tm K S) : S ∨ ∃ v, PO P ρ o ⟨n, need o.op tm, h, ms, h0⟩ v ∧ K v := by
  unfold XO at hx
  split at hx
  · rename_i x ho
    right
    split at hx
    · obtain ⟨S, hK⟩ := hx
      exact ⟨_, PO_nil_move ho, hK⟩
    · rename_i c _
      have hc : ev (need o.op tm) (.const c) = some (ofConst c) := rfl
      split at hx
      · rename_i v hv; rw [hv] at hc; exact ⟨_, PO_move ho hc, hx⟩
      · exact ⟨_, PO_move ho hc, hx⟩
    · split at hx
      · rename_i v hv; exact ⟨v, PO_move ho (ev_o ho (by simp [Op.operands]) hv), hx⟩
      · exact hx.elim
  · rename_i x ho
    right
    split at hx
    · obtain ⟨S, hK⟩ := hx
      exact ⟨_, PO_nil_assign ho, hK⟩
    · rename_i c _
      have hc : ev (need o.op tm) (.const c) = some (ofConst c) := rfl
      split at hx
      · rename_i v hv; rw [hv] at hc; exact ⟨_, PO_assign ho hc, hx⟩
      · exact ⟨_, PO_assign ho hc, hx⟩
    · split at hx
      · rename_i v hv; exact ⟨v, PO_assign ho (ev_o ho (by simp [Op.operands]) hv), hx⟩
      · exact hx.elim
  · rename_i c x y ho
    right
    split at hx
    · rename_i hc
      split at hx
      · rename_i v hv
        exact ⟨v, PO_pick ho (ev_o ho (by simp [Op.operands]) hc) (by simpa [picked] using ev_o ho (by simp [Op.operands]) hv), hx⟩
      · exact hx.elim
    · rename_i hc
      split at hx
      · rename_i v hv
        exact ⟨v, PO_pick ho (ev_o ho (by simp [Op.operands]) hc) (by simpa [picked] using ev_o ho (by simp [Op.operands]) hv), hx⟩
      · exact hx.elim
    · exact hx.elim
  · rename_i x ho
    right
    split at hx
    · rename_i cs hv; exact ⟨_, PO_nilCheck_ip ho (ev_o ho (by simp [Op.operands]) hv), hx⟩
    · rename_i b k hv; exact ⟨_, PO_nilCheck_ptr ho (ev_o ho (by simp [Op.operands]) hv), hx⟩
    · exact hx
  · rename_i t x ho
    right
    split at hx
    · rename_i cs hv
      obtain ⟨T, hx⟩ := hx
      split at hx
      · rename_i v hl; exact ⟨v, PO_load ho T.ok (ev_o ho (by simp [Op.operands]) hv) hl, hx⟩
      · exact hx.elim
    · rename_i b k hv
      obtain ⟨T, cs, v, ⟨hb, hl⟩, hK⟩ := hx
      exact ⟨v, PO_load_row ho T.ok (ev_o ho (by simp [Op.operands]) hv) hb hl, hK⟩
    · exact hx
  · rename_i s x f ho
    right
    split at hx
    · rename_i cs hv
      obtain ⟨F, hx⟩ := hx
      exact ⟨_, PO_fieldAddr ho F.ok (ev_o ho (by simp [Op.operands]) hv), hx⟩
    · rename_i b k hv
      obtain ⟨F, hx⟩ := hx
      exact ⟨_, PO_fieldAddr_row ho F.ok (ev_o ho (by simp [Op.operands]) hv), hx⟩
    · exact hx
  · rename_i s x f ho
    right
    split at hx
    · rename_i cs hv
      obtain ⟨F, hx⟩ := hx
      split at hx
      · rename_i v hl; exact ⟨v, PO_field ho F.ok F.T.ok (ev_o ho (by simp [Op.operands]) hv) hl, hx⟩
      · exact hx.elim
    · exact hx
  · rename_i t x ix ho
    right
    split at hx
    · rename_i own S' es k i hv hi
      obtain ⟨T, e, ⟨rfl, h1, h2⟩, hK⟩ := hx
      exact ⟨_, PO_indexAddr ho T.ok T.T.ok (ev_o ho (by simp [Op.operands]) hv) (ev_o ho (by simp [Op.operands]) hi) h1 h2, hK⟩
    · rename_i cs k i hv hi
      obtain ⟨T, ⟨h1, h2⟩, hK⟩ := hx
      exact ⟨_, PO_indexAddr_arr ho T.ok T.T.ok (ev_o ho (by simp [Op.operands]) hv) (ev_o ho (by simp [Op.operands]) hi) h1 h2, hK⟩
    · rename_i b off S' len cap k i hv hi
      obtain ⟨T, q, ⟨rfl, h1, h2, rfl⟩, hK⟩ := hx
      exact ⟨_, PO_indexAddr_ms ho T.ok T.T.ok (ev_o ho (by simp [Op.operands]) hv) (ev_o ho (by simp [Op.operands]) hi) h1 h2, hK⟩
    · rename_i b off k i hv hi
      obtain ⟨T, q, ⟨h1, h2, rfl⟩, hK⟩ := hx
      exact ⟨_, PO_indexAddr_arr_row ho T.ok T.T.ok (ev_o ho (by simp [Op.operands]) hv) (ev_o ho (by simp [Op.operands]) hi) h1 h2, hK⟩
    · exact hx.elim
  · rename_i t x ix ho
    right
    split at hx
    · rename_i s k i hv hi
      obtain ⟨c, ⟨h1, h2, h3⟩, hK⟩ := hx
      exact ⟨_, PO_index_str ho h1 (ev_o ho (by simp [Op.operands]) hv) (ev_o ho (by simp [Op.operands]) hi) h2 h3, hK⟩
    · rename_i cs k i hv hi
      obtain ⟨T, ⟨h1, h2⟩, hx⟩ := hx
      split at hx
      · rename_i v hl; exact ⟨v, PO_index_arr ho T.ok T.T.ok (ev_o ho (by simp [Op.operands]) hv) (ev_o ho (by simp [Op.operands]) hi) h1 h2 hl, hx⟩
      · exact hx.elim
    · exact hx.elim
  · rename_i x i ho
    right
    split at hx
    · rename_i vs hv
      split at hx
      · rename_i v hi; exact ⟨v, PO_extract ho (ev_o ho (by simp [Op.operands]) hv) hi, hx⟩
      · exact hx.elim
    · exact hx.elim
  · rename_i op t x y t' ho
    right; exact XB_sound ho hx
  · rename_i t x ho
    right
    split at hx
    · rename_i b hv; exact ⟨_, PO_not ho (ev_o ho (by simp [Op.operands]) hv), hx⟩
    · exact hx.elim
  · rename_i t x ho
    right
    split at hx
    · rename_i cs hv; exact ⟨_, PO_boxA ho (ev_o ho (by simp [Op.operands]) hv), hx⟩
    · rename_i v hv; exact ⟨_, PO_box1 ho (ev_o ho (by simp [Op.operands]) hv) hx.1, hx.2⟩
    · rename_i a b c hv; exact ⟨_, PO_box1 ho (ev_o ho (by simp [Op.operands]) hv) rfl, hx⟩
    · exact hx
  · rename_i c ho
    obtain ⟨cal, args, ts⟩ := c
    dsimp only at hx
    split at hx
    · right
      split at hx
      · rename_i x t ha ht
        have ha' : args = #[x] := by apply Array.toList_inj.1; simpa using ha
        have ht' : ts = #[t] := by apply Array.toList_inj.1; simpa using ht
        subst ha'; subst ht'
        have he : ∀ {v}, ev tm x = some v → ev (need o.op tm) x = some v := fun e => ev_o ho (by simp [Op.operands, Call.operands]) e
        split at hx
        · rename_i own S' es hv
          obtain ⟨T, m, rfl, hK⟩ := hx
          exact ⟨_, PO_len ho T.ok (he hv), hK⟩
        · rename_i b off S' len cap hv
          obtain ⟨T, hK⟩ := hx
          exact ⟨_, PO_len_ms ho T.ok (he hv), hK⟩
        · rename_i s hv
          exact ⟨_, PO_len_str ho hx.1 (he hv), hx.2⟩
        · exact hx
      · exact hx.elim
    · exact .inr hx
    · exact .inr hx
    · rename_i f
      right
      split at hx
      · rename_i fv vs hf ha
        obtain ⟨v, hp, hK⟩ := hx
        exact ⟨v, PO_call ho (ev_o ho (by simp [Op.operands, Call.operands]) hf) (oargs_o ho (fun x hx => by simp [Op.operands, Call.operands]; exact .inr (by simpa using hx)) ha) hp, hK⟩
      · exact hx.elim
    · exact .inl hx
  all_goals first | exact .inr hx | exact .inl hx
end
end Go.AM
end
section
set_option linter.unusedVariables false
set_option linter.unusedSimpArgs false
namespace Go.AM
open Go.RowKit
def elemN (k : Nat) : List Nat → Bool
  | [] => false
  | x :: r => match Nat.beq k x with
    | true => true
    | false => elemN k r
def gEq : Option (Nat × Bool) → Option (Nat × Bool) → Bool
  | none, none => true
  | some (j, w), some (j', w') => match Nat.beq j j' with
    | true => w == w'
    | false => false
  | _, _ => false
theorem gEq_eq {a b : Option (Nat × Bool)} (h : gEq a b = true) : a = b := by
  unfold gEq at h
  split at h
  · rfl
  · split at h
    · rename_i hj
      have := Nat.eq_of_beq_eq_true hj
      subst this
      simp at h
      rw [h]
    · cases h
  · cases h
def brk (t : Nat) : List Oper → Option (List Oper × Oper × List Oper)
  | [] => none
  | o :: l => match (match o.op with
      | .pick (.tmp c) _ _ => Nat.beq c t
      | _ => false) with
    | true => some ([], o, l)
    | false => match brk t l with
      | some (a, p, r) => some (o :: a, p, r)
      | none => none
theorem brk_spec {t : Nat} : ∀ {l a r : List Oper} {p : Oper}, brk t l = some (a, p, r) → l = a ++ p :: r ∧ ∃ x y, p.op = .pick (.tmp t) x y
  | [], _, _, _, h => by cases h
  | o :: l, a, r, p, h => by
    simp only [brk] at h
    split at h
    · rename_i hc
      simp only [Option.some.injEq, Prod.mk.injEq] at h
      obtain ⟨rfl, rfl, rfl⟩ := h
      split at hc
      · rename_i c x y ho
        have := Nat.eq_of_beq_eq_true hc
        subst this
        exact ⟨rfl, x, y, ho⟩
      · cases hc
    · split at h
      · rename_i a' p' r' hb
        simp only [Option.some.injEq, Prod.mk.injEq] at h
        obtain ⟨rfl, rfl, rfl⟩ := h
        obtain ⟨rfl, h2⟩ := brk_spec hb
        exact ⟨rfl, h2⟩
      · cases h
def isNo : Option AV → Bool
  | none => true
  | some _ => false
def skipOk (ops : Array Oper) (j : Nat) (w : Bool) (n : Nat) (tm : TM) : List Nat → List Oper → Bool
  | _, [] => true
  | sk, o :: l => match o.guard, o.dst with
    | some (j', w'), some d => (gEq (some (j', w')) (some (j, w)) || (match (ops[j']?).bind (·.dst) with
        | some t' => elemN t' sk
        | none => false)) && (Nat.blt d n && (isNo (look tm d) && (!elemN d sk && skipOk ops j w n tm (d :: sk) l)))
    | _, _ => false
def isConst (b : Bool) : Operand → Bool
  | .const (.bool c) => c == b
  | _ => false
def XOG (P : Program) (ρ : Option Nat) (n : Nat) (h : Heap) (ms : List Nat) (h0 : Heap) (o : Oper) (tm : TM) (K : AV → Prop) (S : Prop) : Bool → Prop
  | true => XG P ρ n h ms h0 o tm K
  | false => XO P ρ n h ms h0 o tm K S
theorem XOG_sound {P : Program} {ρ : Option Nat} {n : Nat} {h : Heap} {ms : List Nat} {h0 : Heap} {o : Oper} {tm : TM} {K : AV → Prop} {S : Prop} {b : Bool} (hx : XOG P ρ n h ms h0 o tm K S b) : S ∨ ∃ v, PO P ρ o ⟨n, need o.op tm, h, ms, h0⟩ v ∧ K v := by
  cases b with
  | true => exact .inr hx
  | false => exact XO_sound hx
section
variable (P : Program) (ρ : Option Nat) (ops : Array Oper) (st ge : List Nat) (n : Nat) (h : Heap) (ms : List Nat) (h0 : Heap)
def XL : Nat → Option (Nat × Bool) → Nat → List Oper → TM → (List Oper → TM → Prop) → (TM → Prop) → Prop
  | 0, _, _, l, tm, stp, K => match l with
    | [] => K tm
    | o :: l => stp (o :: l) tm
  | f + 1, g, i, l, tm, stp, K => match l with
    | [] => K tm
    | o :: l => match elemN i st with
      | true => stp (o :: l) tm
      | false => match gEq o.guard g with
        | true => match o.dst with
          | none => stp (o :: l) tm
          | some d => match Nat.blt d n && (g.isNone || isNo (look tm d)) with
            | true => XOG P ρ n h ms h0 o tm (fun v => XL f g (i + 1) l ((d, v) :: tm) stp K) (stp (o :: l) tm) (elemN i ge)
            | false => False
        | false => match o.guard with
          | none => False
          | some (j, w) => match (ops[j]?).bind (·.dst) with
            | none => False
            | some t => match look tm t, brk t (o :: l) with
              | some (.lit (.bool b)), some (inner, pk, rest) => match pk.op, pk.dst with
                | .pick _ x y, some d => match gEq pk.guard g && (Nat.blt d n && ((g.isNone || isNo (look tm d)) && (skipOk ops j w n tm [] inner && (match w with
                    | true => isConst false y
                    | false => isConst true x)))) with
                  | true => match w with
                    | true => ∃ B : Bool, (b = true → XL f (some (j, true)) i inner tm (fun _ _ => False) fun tm' => ev tm' x = some (.lit (.bool B))) ∧ XL f g (i + inner.length + 1) rest ((d, .lit (.bool (b && B))) :: tm) stp K
                    | false => ∃ B : Bool, (b = false → XL f (some (j, false)) i inner tm (fun _ _ => False) fun tm' => ev tm' y = some (.lit (.bool B))) ∧ XL f g (i + inner.length + 1) rest ((d, .lit (.bool (b || B))) :: tm) stp K
                  | false => False
                | _, _ => False
              | _, _ => False
end
section
variable {P : Program} {ρ : Option Nat} {ops : Array Oper} {st ge : List Nat} {n : Nat} {h : Heap} {ms : List Nat} {h0 : Heap} {Q : Exit → AS → Prop}
def Ext (tm tm' : TM) : Prop := ∀ k v, look tm k = some v → look tm' k = some v
theorem Ext.refl (tm : TM) : Ext tm tm := fun _ _ e => e
theorem Ext.trans {a b c : TM} (h : Ext a b) (k : Ext b c) : Ext a c := fun x v e => k x v (h x v e)
theorem Ext.cons {tm : TM} {d : Nat} {v : AV} (hd : isNo (look tm d) = true) : Ext tm ((d, v) :: tm) := by
  intro k u e
  rw [look_cons]
  split
  · rename_i hk; subst hk; rw [e] at hd; cases hd
  · exact e
theorem Ext.both {tm tm' : TM} (h : Ext tm tm') (d : Nat) (v : AV) : Ext ((d, v) :: tm) ((d, v) :: tm') := by
  intro k u e
  rw [look_cons] at e ⊢
  split
  · rename_i hk; rw [if_pos hk] at e; exact e
  · rename_i hk; rw [if_neg hk] at e; exact h k u e
theorem AL_ext {l : List Oper} {tm tm' : TM} (hE : Ext tm tm') (k : AL P ρ ops l Q ⟨n, tm, h, ms, h0⟩) : AL P ρ ops l Q ⟨n, tm', h, ms, h0⟩ :=
  AL_ghost (σ' := ⟨n, tm, h, ms, h0⟩) (Sub.ghost ⟨rfl, rfl, rfl, rfl, hE⟩) k
def GOk (ops : Array Oper) (g : Option (Nat × Bool)) (tm : TM) : Prop := match g with
  | none => True
  | some (j, w) => ∃ o' t, ops[j]? = some o' ∧ o'.dst = some t ∧ look tm t = some (.lit (.bool w))
theorem GOk.ext {g : Option (Nat × Bool)} {tm tm' : TM} (hg : GOk ops g tm) (hE : Ext tm tm') : GOk ops g tm' := by
  cases g with
  | none => trivial
  | some p => obtain ⟨o', t, h1, h2, h3⟩ := hg; exact ⟨o', t, h1, h2, hE _ _ h3⟩
theorem AL_stepG {o : Oper} {l : List Oper} {g : Option (Nat × Bool)} {d : Nat} {tm : TM} {v : AV} (hg : gEq o.guard g = true) (hG : GOk ops g tm) (hdst : o.dst = some d) (hd : Nat.blt d n = true) (hp : PO P ρ o ⟨n, tm, h, ms, h0⟩ v)
    (k : AL P ρ ops l Q ⟨n, (d, v) :: tm, h, ms, h0⟩) : AL P ρ ops (o :: l) Q ⟨n, tm, h, ms, h0⟩ := by
  have e := gEq_eq hg
  cases g with
  | none => exact AL_p e hdst hd hp k
  | some p => obtain ⟨j, w⟩ := p; obtain ⟨o', t, h1, h2, h3⟩ := hG; exact AL_pg e h1 h2 h3 hdst hd hp k
theorem AL_skips {j t : Nat} {b w : Bool} {o' : Oper} (hj : ops[j]? = some o') (ht : o'.dst = some t) (hbw : (b == w) = false) {tm0 : TM} (hb : look tm0 t = some (.lit (.bool b))) {tail : List Oper} (K : ∀ tm', Ext tm0 tm' → AL P ρ ops tail Q ⟨n, tm', h, ms, h0⟩) :
    ∀ (inner : List Oper) (sk : List Nat) (tm : TM), skipOk ops j w n tm0 sk inner = true → Ext tm0 tm → (∀ k, elemN k sk = true → look tm k = some (.tup [])) → AL P ρ ops (inner ++ tail) Q ⟨n, tm, h, ms, h0⟩
  | [], sk, tm, _, hE, _ => K tm hE
  | o :: l, sk, tm, hs, hE, hsk => by
    simp only [skipOk] at hs
    split at hs
    · rename_i j' w' d hg hd
      simp only [Bool.and_eq_true, Bool.or_eq_true, Bool.not_eq_true'] at hs
      obtain ⟨hg', hdn, hno, hds, hs⟩ := hs
      have hE' : Ext tm0 ((d, .tup []) :: tm) := by
        intro k v e
        rw [look_cons]
        split
        · rename_i hk; subst hk; rw [e] at hno; cases hno
        · exact hE k v e
      have ih := AL_skips hj ht hbw hb K l (d :: sk) ((d, .tup []) :: tm) hs hE' (fun k hk => by
        simp only [elemN] at hk
        rw [look_cons]
        split at hk
        · rename_i hb; rw [if_pos (Nat.eq_of_beq_eq_true hb).symm]
        · rename_i hb
          rw [if_neg (fun e => by subst e; simp at hb)]
          exact hsk k hk)
      rcases hg' with hg' | hg'
      · have e := gEq_eq hg'
        injection e with e
        injection e with e1 e2
        subst e1; subst e2
        exact AL_s0 hg hj ht (hE _ _ hb) hbw hd hdn ih
      · split at hg'
        · rename_i t' ht'
          obtain ⟨o2, ho2, hd2⟩ := Option.bind_eq_some_iff.1 ht'
          exact AL_s1 hg ho2 hd2 (hsk t' hg') hd hdn ih
        · cases hg'
    · cases hs
theorem isConst_ev {b : Bool} {x : Operand} (h : isConst b x = true) (tm : TM) : ev tm x = some (.lit (.bool b)) := by
  unfold isConst at h
  split at h
  · rename_i c
    simp at h
    subst h
    rfl
  · cases h
theorem XL_sound : ∀ (f : Nat) (g : Option (Nat × Bool)) (i : Nat) (l : List Oper) (tm : TM) (stp : List Oper → TM → Prop) (K : TM → Prop) (tail : List Oper), XL P ρ ops st ge n h ms h0 f g i l tm stp K → GOk ops g tm →
    (∀ l' tm', stp l' tm' → AL P ρ ops (l' ++ tail) Q ⟨n, tm', h, ms, h0⟩) → (∀ tm', (g.isSome = true → Ext tm tm') → K tm' → AL P ρ ops tail Q ⟨n, tm', h, ms, h0⟩) → AL P ρ ops (l ++ tail) Q ⟨n, tm, h, ms, h0⟩ := by
  intro f
  induction f with
  | zero =>
    intro g i l tm stp K tail hx hG hs hK
    simp only [XL] at hx
    split at hx
    · exact hK tm (fun _ => .refl _) hx
    · exact hs _ _ hx
  | succ f ih =>
    intro g i l tm stp K tail hx hG hs hK
    simp only [XL] at hx
    split at hx
    · exact hK tm (fun _ => .refl _) hx
    rename_i o l
    split at hx
    · exact hs _ _ hx
    split at hx
    · rename_i hg
      split at hx
      · exact hs _ _ hx
      rename_i d hd
      split at hx
      · rename_i hdn
        simp only [Bool.and_eq_true, Bool.or_eq_true] at hdn
        rcases XOG_sound hx with hS | ⟨v, hp, hk⟩
        · exact hs _ _ hS
        · refine AL_stepG hg hG hd hdn.1 (PO_up hp) ?_
          have hE : g.isSome = true → Ext tm ((d, v) :: tm) := fun hgs => Ext.cons (hdn.2.resolve_left (by cases g <;> simp at hgs ⊢))
          exact ih g (i + 1) l _ stp K tail hk (by cases g with | none => trivial | some p => exact hG.ext (hE rfl)) hs (fun tm' hE' hk' => hK tm' (fun hgs => (hE hgs).trans (hE' hgs)) hk')
      · exact hx.elim
    · rename_i hg
      split at hx
      · exact hx.elim
      rename_i j w hgo
      split at hx
      · exact hx.elim
      rename_i t hjt
      obtain ⟨o', hj, ht⟩ := Option.bind_eq_some_iff.1 hjt
      split at hx
      · rename_i b inner pk rest hlk hbrk
        obtain ⟨hl, x0, y0, hpk⟩ := brk_spec hbrk
        split at hx
        · rename_i c x y d hop hd
          rw [hpk] at hop
          injection hop with e1 e2 e3
          subst e1; subst e2; subst e3
          split at hx
          · rename_i hck
            simp only [Bool.and_eq_true, Bool.or_eq_true] at hck
            obtain ⟨hgp, hdn, hfr, hsk, hcst⟩ := hck
            rw [hl, List.append_assoc, List.cons_append]
            -- behind the choice
            have after : ∀ (B : Bool) (tm' : TM), Ext tm tm' → PO P ρ pk ⟨n, tm', h, ms, h0⟩ (.lit (.bool B)) → XL P ρ ops st ge n h ms h0 f g (i + inner.length + 1) rest ((d, .lit (.bool B)) :: tm) stp K → AL P ρ ops (pk :: (rest ++ tail)) Q ⟨n, tm', h, ms, h0⟩ := by
              intro B tm' hE hp hk
              refine AL_stepG hgp (hG.ext hE) hd hdn hp (AL_ext (hE.both d _) ?_)
              have hE2 : g.isSome = true → Ext tm ((d, .lit (.bool B)) :: tm) := fun hgs => Ext.cons (hfr.resolve_left (by cases g <;> simp at hgs ⊢))
              exact ih g _ rest _ stp K tail hk (by cases g with | none => trivial | some p => exact hG.ext (hE2 rfl)) hs (fun tm2 hE' hk' => hK tm2 (fun hgs => (hE2 hgs).trans (hE' hgs)) hk')
            split at hx
            · obtain ⟨B, hin, hrest⟩ := hx
              dsimp only at hcst hsk
              cases b with
              | true =>
                refine ih (some (j, true)) i inner tm _ _ (pk :: (rest ++ tail)) (hin rfl) ⟨o', t, hj, ht, hlk⟩ (fun _ _ hf => hf.elim) (fun tm' hE he => ?_)
                refine after B tm' (hE rfl) (PO_pick hpk (hE rfl _ _ hlk) (by simpa [picked] using he)) (by simpa using hrest)
              | false =>
                refine AL_skips hj ht rfl hlk (fun tm' hE => ?_) inner [] tm hsk (.refl _) (fun k hk => by cases hk)
                refine after false tm' hE (PO_pick hpk (hE _ _ hlk) (by simpa [picked] using isConst_ev hcst tm')) (by simpa using hrest)
            · obtain ⟨B, hin, hrest⟩ := hx
              dsimp only at hcst hsk
              cases b with
              | false =>
                refine ih (some (j, false)) i inner tm _ _ (pk :: (rest ++ tail)) (hin rfl) ⟨o', t, hj, ht, hlk⟩ (fun _ _ hf => hf.elim) (fun tm' hE he => ?_)
                refine after B tm' (hE rfl) (PO_pick hpk (hE rfl _ _ hlk) (by simpa [picked] using he)) (by simpa using hrest)
              | true =>
                refine AL_skips hj ht rfl hlk (fun tm' hE => ?_) inner [] tm hsk (.refl _) (fun k hk => by cases hk)
                refine after true tm' hE (PO_pick hpk (hE _ _ hlk) (by simpa [picked] using isConst_ev hcst tm')) (by simpa using hrest)
          · exact hx.elim
        · exact hx.elim
      · exact hx.elim
theorem AL_x {l : List Oper} {tm : TM} (st ge : List Nat) (i : Nat) (hx : XL P ρ ops st ge n h ms h0 l.length none i l tm (fun l' tm' => AL P ρ ops l' Q ⟨n, tm', h, ms, h0⟩) (fun tm' => Q .normal ⟨n, tm', h, ms, h0⟩)) : AL P ρ ops l Q ⟨n, tm, h, ms, h0⟩ := by
  have := XL_sound (Q := Q) l.length none i l tm _ _ [] hx trivial (fun l' tm' hh => by rwa [List.append_nil]) (fun tm' _ hk => AL_nil hk)
  rwa [List.append_nil] at this
end
end Go.AM
end
section
set_option linter.unusedVariables false
set_option linter.unusedSimpArgs false
namespace Go.AM
open Go.RowKit
def needOk (l : List Oper) (i s : Nat) : Bool := notDst l s || (List.range i).any fun j => edgeB l i j && (match dstAt l j with | some d => Nat.beq d s | none => false)
def grdSlot (l : List Oper) (o : Oper) : List Nat := match o.guard with
  | none => []
  | some (j, _) => match dstAt l j with | some t => [t] | none => []
def drawNeed (m : Nat) (l : List Oper) : Bool := l.zipIdx.all fun (o, i) => Nat.ble m i || (grdSlot l o ++ opSlots o.op).all (needOk l i)
def drawChk (n m : Nat) (l : List Oper) : Bool := drawOk m l && (drawNeed m l && (Nat.ble m l.length && (l.take m).all fun o => match o.dst with | some d => Nat.blt d n | none => false))
section
variable {P : Program} {ρ : Option Nat} {ops : Array Oper} {ge : List Nat} {l : List Oper} {n : Nat} {h : Heap} {ms : List Nat} {h0 : Heap} {Q : Exit → AS → Prop}
def DInv (l : List Oper) (tm0 tm : TM) (vals : List AV) : Prop := ∀ k v, look tm k = some v → (notDst l k = true ∧ look tm0 k = some v) ∨ ∃ j, j < vals.length ∧ dstAt l j = some k ∧ vals[j]? = some v
theorem DInv.more {tm0 tm : TM} {vals : List AV} (hI : DInv l tm0 tm vals) (ws : List AV) : DInv l tm0 tm (vals ++ ws) := by
  intro k v e
  rcases hI k v e with h | ⟨j, h1, h2, h3⟩
  · exact .inl h
  · exact .inr ⟨j, by simp; omega, h2, by rw [List.getElem?_append_left h1]; exact h3⟩
theorem DInv.put {tm0 tm : TM} {vals : List AV} (hI : DInv l tm0 tm vals) {d : Nat} {v : AV} (hd : dstAt l vals.length = some d) : DInv l tm0 ((d, v) :: tm) (vals ++ [v]) := by
  intro k u e
  rw [look_cons] at e
  split at e
  · rename_i hk
    injection e with e
    subst hk; subst e
    exact .inr ⟨vals.length, by simp, hd, by simp⟩
  · exact hI.more _ k u e
theorem DInv.put' {tm0 tm : TM} {vals ws : List AV} (hI : DInv l tm0 tm vals) {d : Nat} {v : AV} {j : Nat} (hd : dstAt l j = some d) (hj : (vals ++ ws)[j]? = some v) : DInv l tm0 ((d, v) :: tm) (vals ++ ws) := by
  intro k u e
  rw [look_cons] at e
  split at e
  · rename_i hk
    injection e with e
    subst hk; subst e
    exact .inr ⟨j, (List.getElem?_eq_some_iff.1 hj).1, hd, hj⟩
  · exact hI.more _ k u e
def Steps (P : Program) (ρ : Option Nat) (l : List Oper) (n : Nat) (tm0 : TM) (h : Heap) (ms : List Nat) (h0 : Heap) (vals : List AV) (a b : Nat) : Prop :=
  ∀ i o, l[i]? = some o → a ≤ i → i < b → ∃ tm v, vals[i]? = some v ∧ (∀ p ∈ tm, NeedB l tm0 vals i p) ∧ StepB P ρ l o ⟨n, tm, h, ms, h0⟩ v
theorem Steps.more {tm0 : TM} {vals : List AV} {a b : Nat} (hs : Steps P ρ l n tm0 h ms h0 vals a b) (ws : List AV) (hb : b ≤ vals.length) : Steps P ρ l n tm0 h ms h0 (vals ++ ws) a b := by
  intro i o hi h1 h2
  obtain ⟨tm, v, k1, k2, k3⟩ := hs i o hi h1 h2
  refine ⟨tm, v, by rw [List.getElem?_append_left (by omega)]; exact k1, fun p hp => ?_, k3⟩
  rcases k2 p hp with ⟨j, e1, e2, e3⟩ | h
  · exact .inl ⟨j, e1, e2, by rw [List.getElem?_append_left (List.getElem?_eq_some_iff.1 e3).1]; exact e3⟩
  · exact .inr h
theorem Steps.join {tm0 : TM} {vals : List AV} {a b c : Nat} (h1 : Steps P ρ l n tm0 h ms h0 vals a b) (h2 : Steps P ρ l n tm0 h ms h0 vals b c) : Steps P ρ l n tm0 h ms h0 vals a c := by
  intro i o hi ha hc
  by_cases hb : i < b
  · exact h1 i o hi ha hb
  · exact h2 i o hi (by omega) hc
theorem mem_needL {tm : TM} {l : List Nat} : ∀ {p : Nat × AV}, p ∈ needL tm l → look tm p.1 = some p.2 ∧ p.1 ∈ l := by
  intro p
  induction l with
  | nil => intro h; cases h
  | cons q r ih =>
    intro h
    simp only [needL] at h
    split at h
    · rename_i v hv
      rcases List.mem_cons.1 h with rfl | h
      · exact ⟨hv, List.mem_cons_self ..⟩
      · exact ⟨(ih h).1, List.mem_cons_of_mem _ (ih h).2⟩
    · exact ⟨(ih h).1, List.mem_cons_of_mem _ (ih h).2⟩
theorem need_of {m : Nat} (hdn : drawNeed m l = true) {i : Nat} {o : Oper} (hi : l[i]? = some o) (him : i < m) {s : Nat} (hs : s ∈ grdSlot l o ++ opSlots o.op) : needOk l i s = true := by
  unfold drawNeed at hdn
  rw [List.all_eq_true] at hdn
  have := hdn (o, i) (by rw [List.mem_zipIdx_iff_getElem?]; exact hi)
  simp only [Bool.or_eq_true] at this
  rcases this with h | h
  · have := Nat.le_of_ble_eq_true h; omega
  · rw [List.all_eq_true] at h; exact h s hs
theorem NeedB_of {m : Nat} (hd : DrawF m l) {tm0 tm : TM} {vals : List AV} (hI : DInv l tm0 tm vals) {i s : Nat} (hn : needOk l i s = true) {v : AV} (hv : look tm s = some v) (ws : List AV) : NeedB l tm0 (vals ++ ws) i (s, v) := by
  unfold needOk at hn
  rw [Bool.or_eq_true] at hn
  rcases hI s v hv with ⟨h1, h2⟩ | ⟨j, h1, h2, h3⟩
  · exact .inr ⟨h1, h2⟩
  · rcases hn with hn | hn
    · unfold notDst at hn
      rw [List.all_eq_true] at hn
      unfold dstAt at h2
      obtain ⟨o, ho, hod⟩ := Option.bind_eq_some_iff.1 h2
      have := hn o (List.mem_of_getElem? ho)
      rw [hod] at this
      simp at this
    · rw [List.any_eq_true] at hn
      obtain ⟨j', _, hj⟩ := hn
      rw [Bool.and_eq_true] at hj
      have hd' : dstAt l j' = some s := by
        have := hj.2
        split at this
        · rename_i d hd'; rw [hd', Nat.eq_of_beq_eq_true this]
        · cases this
      have := hd.once j j' s h2 hd'
      subst this
      exact .inl ⟨j, hj.1, h2, by rw [List.getElem?_append_left h1]; exact h3⟩
def GOkD (l : List Oper) (g : Option (Nat × Bool)) (tm : TM) : Prop := match g with
  | none => True
  | some (j, w) => ∃ t, dstAt l j = some t ∧ look tm t = some (.lit (.bool w))
theorem GuardB_of {g : Option (Nat × Bool)} {o : Oper} {tm tmx : TM} (hg : gEq o.guard g = true) (hG : GOkD l g tm) (hx : ∀ t, t ∈ grdSlot l o → look tmx t = look tm t) : GuardB l tmx o true := by
  have e := gEq_eq hg
  unfold GuardB
  cases g with
  | none => rw [e]
  | some p =>
    obtain ⟨j, w⟩ := p
    obtain ⟨t, h1, h2⟩ := hG
    rw [e]
    refine ⟨t, h1, .inl ⟨w, ?_, by simp⟩⟩
    rw [hx t (by unfold grdSlot; rw [e]; simp only [h1]; exact List.mem_cons_self ..), h2]
theorem PO_mono {o : Oper} {tm1 tm2 : TM} {v : AV} (hE : Ext tm1 tm2) (hp : PO P ρ o ⟨n, tm1, h, ms, h0⟩ v) : PO P ρ o ⟨n, tm2, h, ms, h0⟩ v := by
  intro g I a w hs
  have hs3 : SR g I ⟨n, tm1, h, ms, h0⟩ a w := ⟨hs.le, hs.below, hs.base, hs.wr, hs.size, fun k v e => hs.slot k v (hE k v e), ⟨hs.marks.defs, hs.marks.nodup, hs.marks.here, hs.marks.keep, hs.marks.apart⟩⟩
  refine wpIn_oper_mono (hp g I a w hs3) ?_ (fun _ _ _ h => h)
  rintro a' w' ⟨I', u, k1, k2, k3, k4⟩
  exact ⟨I', u, k1, k2, k3, ⟨k4.le, k4.below, k4.base, k4.wr, k4.size, fun k v e => (hs.slot k v e).mono k1, ⟨k4.marks.defs, k4.marks.nodup, k4.marks.here, k4.marks.keep, k4.marks.apart⟩⟩⟩
theorem need_ext {tm : TM} {o : Oper} (ss : List Nat) : Ext (need o.op tm) (needL tm (ss ++ opSlots o.op)) := by
  intro k v e
  have h1 := mem_needL (look_mem e)
  rw [look_needL (List.mem_append_right _ h1.2)]
  exact h1.1
theorem GOkD.ext {g : Option (Nat × Bool)} {tm tm' : TM} (hg : GOkD l g tm) (hE : g.isSome = true → Ext tm tm') : GOkD l g tm' := by
  cases g with
  | none => trivial
  | some p => obtain ⟨t, h1, h2⟩ := hg; exact ⟨t, h1, hE rfl _ _ h2⟩
theorem step_one {m : Nat} (hd : DrawF m l) (hdn : drawNeed m l = true) {tm0 tm : TM} {vals : List AV} (hI : DInv l tm0 tm vals) {g : Option (Nat × Bool)} (hG : GOkD l g tm) {o : Oper} (ho : l[vals.length]? = some o) (hm : vals.length < m) (hg : gEq o.guard g = true) {v : AV}
    (hp : PO P ρ o ⟨n, need o.op tm, h, ms, h0⟩ v) : Steps P ρ l n tm0 h ms h0 (vals ++ [v]) vals.length (vals.length + 1) := by
  intro i o' hi h1 h2
  have hii : i = vals.length := by omega
  subst hii
  rw [ho] at hi
  injection hi with hi
  subst hi
  refine ⟨needL tm (grdSlot l o ++ opSlots o.op), v, by simp, fun p hp => ?_, .inl ⟨GuardB_of hg hG (fun t ht => look_needL (List.mem_append_left _ ht)), PO_mono (need_ext _) hp⟩⟩
  obtain ⟨h3, h4⟩ := mem_needL hp
  exact NeedB_of hd hI (need_of hdn ho hm h4) h3 [v]
theorem XS_draw (hl : ops.toList = l) {m : Nat} (hd : DrawF m l) (hdn : drawNeed m l = true) {tm0 tm : TM} {j t : Nat} {b w : Bool} (hjt : dstAt l j = some t) (hbw : (b == w) = false) (hlt : look tm t = some (.lit (.bool b))) : ∀ (inner : List Oper) (sk : List Nat) (tmc : TM) (vals : List AV), skipOk ops j w n tm sk inner = true →
    (∀ k, k < inner.length → l[vals.length + k]? = inner[k]?) → vals.length + inner.length ≤ m → DInv l tm0 tmc vals → Ext tm tmc → (∀ k, elemN k sk = true → look tmc k = some (.tup [])) →
    ∃ ws : List AV, ws.length = inner.length ∧ Steps P ρ l n tm0 h ms h0 (vals ++ ws) vals.length (vals.length + inner.length)
  | [], sk, tmc, vals, _, _, _, _, _, _ => ⟨[], rfl, fun i o hi h1 h2 => by simp at h2; omega⟩
  | o :: r, sk, tmc, vals, hs, hseg, hm, hI, hE, hsk => by
    have hget : ∀ i, ops[i]? = l[i]? := fun i => by rw [← hl, Array.getElem?_toList]
    simp only [skipOk] at hs
    split at hs
    · rename_i j' w' d hg hdd
      simp only [Bool.and_eq_true, Bool.or_eq_true, Bool.not_eq_true'] at hs
      obtain ⟨hg', hdn', hno, hds, hs⟩ := hs
      have hE' : Ext tm ((d, .tup []) :: tmc) := by
        intro k v e
        rw [look_cons]
        split
        · rename_i hk; subst hk; rw [e] at hno; cases hno
        · exact hE k v e
      have ho : l[vals.length]? = some o := by have := hseg 0 (by simp); simpa using this
      have hdl : dstAt l vals.length = some d := by simp [dstAt, ho, hdd]
      simp only [List.length_cons] at hm
      obtain ⟨ws, h1, h2⟩ := XS_draw hl hd hdn hjt hbw hlt r (d :: sk) ((d, .tup []) :: tmc) (vals ++ [.tup []]) hs (fun k hk => by
        have := hseg (k + 1) (by simpa using hk)
        simpa [Nat.add_assoc, Nat.add_comm 1] using this) (by simp; omega) (hI.put hdl) hE' (fun k hk => by
        simp only [elemN] at hk
        rw [look_cons]
        split at hk
        · rename_i hb; rw [if_pos (Nat.eq_of_beq_eq_true hb).symm]
        · rename_i hb
          rw [if_neg (fun e => by subst e; simp at hb)]
          exact hsk k hk)
      refine ⟨.tup [] :: ws, by simp [h1], ?_⟩
      rw [List.append_assoc] at h2
      refine Steps.join (b := vals.length + 1) ?_ (by simpa [Nat.add_assoc, Nat.add_comm 1] using h2)
      intro i o' hi k1 k2
      have hii : i = vals.length := by omega
      subst hii
      rw [ho] at hi
      injection hi with hi
      subst hi
      have fin : ∀ (t' : Nat) (u : AV), look tmc t' = some u → dstAt l j' = some t' → ((∃ b, u = .lit (.bool b) ∧ (b == w') = false) ∨ u = .tup []) → ∃ tm v, (vals ++ .tup [] :: ws)[vals.length]? = some v ∧ (∀ p ∈ tm, NeedB l tm0 (vals ++ .tup [] :: ws) vals.length p) ∧ StepB P ρ l o ⟨n, tm, h, ms, h0⟩ v := by
        intro t' u hu hj' hor
        refine ⟨[(t', u)], .tup [], by simp, fun p hp => ?_, .inr ⟨?_, rfl⟩⟩
        · simp only [List.mem_singleton] at hp
          subst hp
          refine NeedB_of hd hI (need_of hdn ho (by omega) (List.mem_append_left _ ?_)) hu _
          unfold grdSlot; rw [hg]; simp only [hj']; exact List.mem_cons_self ..
        · unfold GuardB
          rw [hg]
          refine ⟨t', hj', ?_⟩
          rcases hor with ⟨b', rfl, hb'⟩ | rfl
          · exact .inl ⟨b', by simp [look], hb'⟩
          · exact .inr ⟨by simp [look], rfl⟩
      rcases hg' with hg' | hg'
      · have e := gEq_eq hg'
        injection e with e
        injection e with e1 e2
        subst e1; subst e2
        exact fin t _ (hE _ _ hlt) hjt (.inl ⟨b, rfl, hbw⟩)
      · split at hg'
        · rename_i t' ht'
          exact fin t' _ (hsk t' hg') (by rw [dstAt, ← hget]; exact ht') (.inr rfl)
        · cases hg'
    · cases hs
theorem XL_draw (hl : ops.toList = l) {m : Nat} (hd : DrawF m l) (hdn : drawNeed m l = true) {tm0 : TM} : ∀ (f : Nat) (g : Option (Nat × Bool)) (i : Nat) (os : List Oper) (tm : TM) (K : TM → Prop) (vals : List AV), XL P ρ ops [] ge n h ms h0 f g i os tm (fun _ _ => False) K →
    (∀ k, k < os.length → l[vals.length + k]? = os[k]?) → vals.length + os.length ≤ m → DInv l tm0 tm vals → GOkD l g tm →
    ∃ (ws : List AV) (tm' : TM), ws.length = os.length ∧ Steps P ρ l n tm0 h ms h0 (vals ++ ws) vals.length (vals.length + os.length) ∧ DInv l tm0 tm' (vals ++ ws) ∧ (g.isSome = true → Ext tm tm') ∧ K tm' := by
  have hget : ∀ i, ops[i]? = l[i]? := fun i => by rw [← hl, Array.getElem?_toList]
  have hdone : ∀ (g : Option (Nat × Bool)) (tm : TM) (K : TM → Prop) (vals : List AV), DInv l tm0 tm vals → K tm → ∃ (ws : List AV) (tm' : TM), ws.length = ([] : List Oper).length ∧ Steps P ρ l n tm0 h ms h0 (vals ++ ws) vals.length (vals.length + ([] : List Oper).length) ∧ DInv l tm0 tm' (vals ++ ws) ∧ (g.isSome = true → Ext tm tm') ∧ K tm' :=
    fun g tm K vals hI hK => ⟨[], tm, rfl, fun i o _ h1 h2 => by simp at h2; omega, by simpa using hI, fun _ => .refl _, hK⟩
  intro f
  induction f with
  | zero =>
    intro g i os tm K vals hx hseg hm hI hG
    simp only [XL] at hx
    split at hx
    · exact hdone g tm K vals hI hx
    · exact hx.elim
  | succ f ih =>
    intro g i os tm K vals hx hseg hm hI hG
    simp only [XL] at hx
    split at hx
    · exact hdone g tm K vals hI hx
    rename_i o r
    have ho : l[vals.length]? = some o := by have := hseg 0 (by simp); simpa using this
    simp only [List.length_cons] at hm
    split at hx
    · exact hx.elim
    split at hx
    · rename_i hg
      split at hx
      · exact hx.elim
      rename_i d hdd
      split at hx
      · rename_i hdn'
        simp only [Bool.and_eq_true, Bool.or_eq_true] at hdn'
        rcases XOG_sound hx with hS | ⟨v, hp, hk⟩
        · exact hS.elim
        · have hdl : dstAt l vals.length = some d := by simp [dstAt, ho, hdd]
          have hE : g.isSome = true → Ext tm ((d, v) :: tm) := fun hgs => Ext.cons (hdn'.2.resolve_left (by cases g <;> simp at hgs ⊢))
          obtain ⟨ws, tm', h1, h2, h3, h4, h5⟩ := ih g (i + 1) r _ K (vals ++ [v]) hk (fun k hk => by
            have := hseg (k + 1) (by simpa using hk)
            simpa [Nat.add_assoc, Nat.add_comm 1] using this) (by simp; omega) (hI.put hdl) (hG.ext hE)
          rw [List.append_assoc] at h2 h3
          refine ⟨v :: ws, tm', by simp [h1], Steps.join (b := vals.length + 1) ?_ (by simpa [Nat.add_assoc, Nat.add_comm 1] using h2), h3, fun hgs => (hE hgs).trans (h4 hgs), h5⟩
          have := (step_one (P := P) (ρ := ρ) (n := n) (h := h) (ms := ms) (h0 := h0) hd hdn hI hG ho (by omega) hg hp).more ws (by simp)
          rwa [List.append_assoc] at this
      · exact hx.elim
    · rename_i hg
      split at hx
      · exact hx.elim
      rename_i j w hgo
      split at hx
      · exact hx.elim
      rename_i t hjt
      have hjt' : dstAt l j = some t := by rw [dstAt, ← hget]; exact hjt
      split at hx
      · rename_i b inner pk rest hlk hbrk
        obtain ⟨hos, x0, y0, hpk⟩ := brk_spec hbrk
        split at hx
        · rename_i c x y d hop hdd
          rw [hpk] at hop
          injection hop with e1 e2 e3
          subst e1; subst e2; subst e3
          split at hx
          · rename_i hck
            simp only [Bool.and_eq_true, Bool.or_eq_true] at hck
            obtain ⟨hgp, hdn', hfr, hsk, hcst⟩ := hck
            have hlen : r.length + 1 = inner.length + (rest.length + 1) := by have := congrArg List.length hos; simpa using this
            rw [hos] at hseg ⊢
            have hsegI : ∀ k, k < inner.length → l[vals.length + k]? = inner[k]? := fun k hk => by
              have := hseg k (by simp; omega)
              rw [List.getElem?_append_left hk] at this
              exact this
            have hpkl : l[vals.length + inner.length]? = some pk := by
              have := hseg inner.length (by simp)
              simpa using this
            have hsegR : ∀ k, k < rest.length → l[vals.length + inner.length + 1 + k]? = rest[k]? := fun k hk => by
              have := hseg (inner.length + 1 + k) (by simp; omega)
              rw [List.getElem?_append_right (by omega), show inner.length + 1 + k - inner.length = k + 1 by omega] at this
              simpa [Nat.add_assoc] using this
            have after : ∀ (B : Bool) (ws1 : List AV) (tm1 : TM), ws1.length = inner.length → Steps P ρ l n tm0 h ms h0 (vals ++ ws1) vals.length (vals.length + inner.length) → DInv l tm0 tm1 (vals ++ ws1) → Ext tm tm1 → PO P ρ pk ⟨n, need pk.op tm1, h, ms, h0⟩ (.lit (.bool B)) →
                XL P ρ ops [] ge n h ms h0 f g (i + inner.length + 1) rest ((d, .lit (.bool B)) :: tm) (fun _ _ => False) K →
                ∃ (ws : List AV) (tm' : TM), ws.length = (inner ++ pk :: rest).length ∧ Steps P ρ l n tm0 h ms h0 (vals ++ ws) vals.length (vals.length + (inner ++ pk :: rest).length) ∧ DInv l tm0 tm' (vals ++ ws) ∧ (g.isSome = true → Ext tm tm') ∧ K tm' := by
              intro B ws1 tm1 hw1 hS1 hI1 hE1 hp hk
              have hlv : (vals ++ ws1).length = vals.length + inner.length := by simp [hw1]
              have hdl : dstAt l (vals ++ ws1).length = some d := by rw [hlv]; simp [dstAt, hpkl, hdd]
              have hE2 : g.isSome = true → Ext tm ((d, .lit (.bool B)) :: tm) := fun hgs => Ext.cons (hfr.resolve_left (by cases g <;> simp at hgs ⊢))
              obtain ⟨ws2, tm2, k1, k2, k3, k4, k5⟩ := ih g (i + inner.length + 1) rest _ K (vals ++ ws1 ++ [.lit (.bool B)]) hk (fun k hk => by
                have := hsegR k hk
                simpa [hw1, Nat.add_assoc] using this) (by simp [hw1]; try omega) ((hI.more ws1).put hdl) (hG.ext hE2)
              have hl3 : (vals ++ ws1 ++ [AV.lit (.bool B)]).length = vals.length + inner.length + 1 := by simp [hw1]; try omega
              refine ⟨ws1 ++ [.lit (.bool B)] ++ ws2, tm2, by simp [hw1, k1]; try omega, ?_, by simpa [List.append_assoc] using k3, fun hgs => (hE2 hgs).trans (k4 hgs), k5⟩
              have s1 := hS1.more ([.lit (.bool B)] ++ ws2) (by simp [hw1])
              have s2 := (step_one (P := P) (ρ := ρ) (n := n) (h := h) (ms := ms) (h0 := h0) hd hdn hI1 (hG.ext fun _ => hE1) (by rw [hlv]; exact hpkl) (by rw [hlv]; omega) hgp hp).more ws2 (by simp; try omega)
              rw [hlv] at s2
              rw [hl3] at k2
              simp only [List.append_assoc] at s1 s2 k2 ⊢
              refine s1.join (s2.join ?_)
              simpa [Nat.add_assoc, Nat.add_comm 1] using k2
            split at hx
            · obtain ⟨B, hin, hrest⟩ := hx
              dsimp only at hcst hsk
              cases b with
              | true =>
                obtain ⟨ws1, tm1, k1, k2, k3, k4, k5⟩ := ih (some (j, true)) i inner tm _ vals (hin rfl) hsegI (by omega) hI ⟨t, hjt', hlk⟩
                refine after B ws1 tm1 k1 k2 k3 (k4 rfl) (PO_pick hpk (t := true) ?_ ?_) (by simpa using hrest)
                · rw [hpk]; exact (ev_need (by simp [Op.operands])).trans (k4 rfl _ _ hlk)
                · rw [hpk]; simp only [picked]; rw [ev_need (by simp [Op.operands])]; exact k5
              | false =>
                obtain ⟨ws1, k1, k2⟩ := XS_draw (P := P) (ρ := ρ) (h := h) (ms := ms) (h0 := h0) hl hd hdn hjt' rfl hlk inner [] tm vals hsk hsegI (by omega) hI (.refl _) (fun k hk => by cases hk)
                refine after false ws1 tm k1 k2 (hI.more _) (.refl _) (PO_pick hpk (t := false) ?_ ?_) (by simpa using hrest)
                · rw [hpk]; exact (ev_need (by simp [Op.operands])).trans hlk
                · simp only [picked]; exact isConst_ev hcst _
            · obtain ⟨B, hin, hrest⟩ := hx
              dsimp only at hcst hsk
              cases b with
              | false =>
                obtain ⟨ws1, tm1, k1, k2, k3, k4, k5⟩ := ih (some (j, false)) i inner tm _ vals (hin rfl) hsegI (by omega) hI ⟨t, hjt', hlk⟩
                refine after B ws1 tm1 k1 k2 k3 (k4 rfl) (PO_pick hpk (t := false) ?_ ?_) (by simpa using hrest)
                · rw [hpk]; exact (ev_need (by simp [Op.operands])).trans (k4 rfl _ _ hlk)
                · rw [hpk]; simp only [picked]; rw [ev_need (by simp [Op.operands])]; exact k5
              | true =>
                obtain ⟨ws1, k1, k2⟩ := XS_draw (P := P) (ρ := ρ) (h := h) (ms := ms) (h0 := h0) hl hd hdn hjt' rfl hlk inner [] tm vals hsk hsegI (by omega) hI (.refl _) (fun k hk => by cases hk)
                refine after true ws1 tm k1 k2 (hI.more _) (.refl _) (PO_pick hpk (t := true) ?_ ?_) (by simpa using hrest)
                · rw [hpk]; exact (ev_need (by simp [Op.operands])).trans hlk
                · simp only [picked]; exact isConst_ev hcst _
          · exact hx.elim
        · exact hx.elim
      · exact hx.elim
theorem AW_drawX {id m : Nat} {tm tm1 : TM} (K : TM → Prop) (hK : ∀ tm', K tm' → AL P ρ ops (l.drop m) Q ⟨n, tm', h, ms, h0⟩) (hl : ops.toList = l) (hm : P.follows .mixedOrders = true) (hck : drawChk n m l = true) (h1 : ∀ k v, look tm1 k = some v → notDst l k = true ∧ look tm k = some v)
    (hx : XL P ρ ops [] ge n h ms h0 (l.take m).length none 0 (l.take m) tm1 (fun _ _ => False) K) : AW P ρ (.region id ops true) Q ⟨n, tm, h, ms, h0⟩ := by
  unfold drawChk at hck
  simp only [Bool.and_eq_true] at hck
  obtain ⟨hok, h2, h3, h4⟩ := hck
  have hml := Nat.le_of_ble_eq_true h3
  have hlen : (l.take m).length = m := by rw [List.length_take]; omega
  obtain ⟨ws, tm', k1, k2, k3, _, k5⟩ := XL_draw (tm0 := tm) hl (drawOk_spec hok) h2 _ none 0 (l.take m) tm1 _ [] hx (fun k hk => by
    rw [hlen] at hk
    rw [List.getElem?_take, if_pos hk]; simp) (by simp; omega) (fun k v e => .inl (h1 k v e)) trivial
  refine AW_region_draw (σ := ⟨n, tm, h, ms, h0⟩) m ws tm' hl hm hok hml ?_ ?_ ?_ (hK _ k5)
  · intro i o d hi him hd
    rw [List.all_eq_true] at h4
    have := h4 o (by
      rw [List.mem_iff_getElem?]
      exact ⟨i, by rw [List.getElem?_take, if_pos him]; exact hi⟩)
    rw [hd] at this
    simp [Nat.blt] at this
    show d < n
    omega
  · intro i o hi him
    obtain ⟨tmx, v, e1, e2, e3⟩ := k2 i o hi (by simp) (by simp; omega)
    exact ⟨tmx, v, by simpa using e1, fun p hp => by simpa using e2 p hp, e3⟩
  · intro k v e
    rcases k3 k v e with h | ⟨j, e1, e2, e3⟩
    · exact .inr h
    · exact .inl ⟨j, by simp at e1; omega, e2, by simpa using e3⟩
end
end Go.AM
end
section
set_option linter.unusedVariables false
set_option linter.unusedSimpArgs false
namespace Go.AM
open Go.RowKit
def isEff : Op → Bool
  | .alloc _ | .store .. | .makeSlice .. | .makeMap .. | .mapUpdate .. | .insert .. | .range .. | .next .. | .entry .. | .mapEntry .. | .entryStore .. => true
  | .call c => match c.callee with
    | .value _ => false
    | .builtin .len | .builtin .min | .builtin .max => false
    | _ => true
  | _ => false
def XF (o : Oper) (P : Program) (tm : TM) (K : AV → Prop) : Prop :=
  match o.op with
  | .move x | .assign x => match ev tm x with
    | some v => K v
    | none => False
  | .nilCheck x => match ev tm x with
    | some (.ip cs) => K (.ip cs)
    | some (.ptr b k) => K (.ptr b k)
    | _ => False
  | .fieldAddr s x f => match ev tm x with
    | some (.ip cs) => ∃ F : FlI P s f, K (.ip (cs.drop F.off))
    | some (.ptr b k) => ∃ F : FlI P s f, K (.ptr b (k + F.off))
    | _ => False
  | .indexAddr t x ix => match ev tm x, ev tm ix with
    | some (.sl own S es), some (.lit (.int k i)) => ∃ (T : SlI P t) (e : List AV), (T.T.n = S ∧ 0 ≤ i ∧ es[i.toNat]? = some e) ∧ K (.ip e)
    | some (.ms b off S len cap), some (.lit (.int k i)) => ∃ (T : SlI P t) (q : Nat), (T.T.n = S ∧ 0 ≤ i ∧ i < len ∧ off + i.toNat * S = q) ∧ K (.ptr b q)
    | _, _ => False
  | _ => False
def hfree : Op → Bool
  | .move _ | .assign _ | .nilCheck _ | .fieldAddr .. | .indexAddr .. => true
  | _ => false
section
variable (P : Program) (ρ : Option Nat) (ge : List Nat) (n : Nat) (h : Heap) (ms : List Nat) (h0 : Heap)
def XM : Nat → List Oper → TM → (TM → Prop) → Prop
  | _, [], tm, K => K tm
  | i, o :: r, tm, K => match isEff o.op with
    | true => XM (i + 1) r tm K
    | false => match o.dst with
      | none => False
      | some d => match hfree o.op with
        | true => XF o P tm fun v => XM (i + 1) r ((d, v) :: tm) K
        | false => XOG P ρ n h ms h0 o tm (fun v => XM (i + 1) r ((d, v) :: tm) K) False (elemN i ge)
def XE : List Oper → TM → Heap → (Heap → Prop) → Prop
  | [], _, h, K => K h
  | o :: r, tm, h, K => match isEff o.op with
    | false => XE r tm h K
    | true => ∃ R : AV → Heap → Prop, MO P ρ o ⟨n, need o.op tm, h, ms, h0⟩ R ∧ ∀ u h', R u h' → XE r tm h' K
end
def effChain (l : List Oper) : Option Nat → Nat → List Oper → Bool
  | _, _, [] => true
  | p, i, o :: r => match isEff o.op with
    | false => effChain l p (i + 1) r
    | true => o.dst.isNone && ((match p with
        | some q => edgeB l i q
        | none => l.zipIdx.all fun (o', j) => hfree o'.op || (isEff o'.op || edgeB l i j)) && effChain l (some i) (i + 1) r)
def chkM (n : Nat) (l : List Oper) : Bool := drawOk2 l.length l && (effChain l none 0 l && ((l.zipIdx.all fun (o, i) => (opSlots o.op).all (needOk l i)) && l.all fun o => o.guard.isNone && (isEff o.op || match o.dst with | some d => Nat.blt d n | none => false)))
section
variable {P : Program} {ρ : Option Nat} {ops : Array Oper} {ge : List Nat} {l : List Oper} {n : Nat} {h : Heap} {ms : List Nat} {h0 : Heap} {Q : Exit → AS → Prop}
theorem XF_sound {o : Oper} {tm : TM} {K : AV → Prop} (hx : XF o P tm K) : ∃ v, (∀ h, PO P ρ o ⟨n, need o.op tm, h, ms, h0⟩ v) ∧ K v := by
  unfold XF at hx
  split at hx
  · rename_i x ho
    split at hx
    · rename_i v hv; exact ⟨v, fun h => PO_move ho (ev_o ho (by simp [Op.operands]) hv), hx⟩
    · exact hx.elim
  · rename_i x ho
    split at hx
    · rename_i v hv; exact ⟨v, fun h => PO_assign ho (ev_o ho (by simp [Op.operands]) hv), hx⟩
    · exact hx.elim
  · rename_i x ho
    split at hx
    · rename_i cs hv; exact ⟨_, fun h => PO_nilCheck_ip ho (ev_o ho (by simp [Op.operands]) hv), hx⟩
    · rename_i b k hv; exact ⟨_, fun h => PO_nilCheck_ptr ho (ev_o ho (by simp [Op.operands]) hv), hx⟩
    · exact hx.elim
  · rename_i s x f ho
    split at hx
    · rename_i cs hv
      obtain ⟨F, hx⟩ := hx
      exact ⟨_, fun h => PO_fieldAddr ho F.ok (ev_o ho (by simp [Op.operands]) hv), hx⟩
    · rename_i b k hv
      obtain ⟨F, hx⟩ := hx
      exact ⟨_, fun h => PO_fieldAddr_row ho F.ok (ev_o ho (by simp [Op.operands]) hv), hx⟩
    · exact hx.elim
  · rename_i t x ix ho
    split at hx
    · rename_i own S' es k i hv hi
      obtain ⟨T, e, ⟨rfl, h1, h2⟩, hK⟩ := hx
      exact ⟨_, fun h => PO_indexAddr ho T.ok T.T.ok (ev_o ho (by simp [Op.operands]) hv) (ev_o ho (by simp [Op.operands]) hi) h1 h2, hK⟩
    · rename_i b off S' len cap k i hv hi
      obtain ⟨T, q, ⟨rfl, h1, h2, rfl⟩, hK⟩ := hx
      exact ⟨_, fun h => PO_indexAddr_ms ho T.ok T.T.ok (ev_o ho (by simp [Op.operands]) hv) (ev_o ho (by simp [Op.operands]) hi) h1 h2, hK⟩
    · exact hx.elim
  · exact hx.elim
structure MFin (P : Program) (ρ : Option Nat) (n : Nat) (h : Heap) (ms : List Nat) (h0 : Heap) (os : List Oper) (tm tm' : TM) : Prop where
  ext : Ext tm tm'
  val : ∀ o ∈ os, isEff o.op = false → ∃ d v, o.dst = some d ∧ look tm' d = some v ∧ PO P ρ o ⟨n, need o.op tm', h, ms, h0⟩ v ∧ (hfree o.op = true → ∀ hh, PO P ρ o ⟨n, need o.op tm', hh, ms, h0⟩ v)
  src : ∀ k v, look tm' k = some v → look tm k = some v ∨ ∃ o ∈ os, isEff o.op = false ∧ o.dst = some k
theorem need_mono {tm tm' : TM} (hE : Ext tm tm') (q : Op) : Ext (need q tm) (need q tm') := by
  intro k v e
  have h1 := mem_needL (look_mem e)
  rw [need, look_needL h1.2]
  exact hE _ _ h1.1
theorem XM_fin : ∀ (os : List Oper) (i : Nat) (tm : TM) (K : TM → Prop), XM P ρ ge n h ms h0 i os tm K → (∀ o ∈ os, ∀ d, o.dst = some d → look tm d = none) → (os.Pairwise fun a b => ∀ d, a.dst = some d → b.dst ≠ some d) → ∃ tm', MFin P ρ n h ms h0 os tm tm' ∧ K tm'
  | [], i, tm, K, hx, _, _ => ⟨tm, ⟨.refl _, by simp, fun k v e => .inl e⟩, hx⟩
  | o :: r, i, tm, K, hx, hf, hd => by
    rw [List.pairwise_cons] at hd
    simp only [XM] at hx
    split at hx
    · rename_i he
      obtain ⟨tm', k, hK⟩ := XM_fin r (i + 1) tm K hx (fun o ho => hf o (List.mem_cons_of_mem _ ho)) hd.2
      refine ⟨tm', ⟨k.ext, fun o' ho' hn => ?_, fun k' v e => ?_⟩, hK⟩
      · rcases List.mem_cons.1 ho' with rfl | ho'
        · rw [he] at hn; cases hn
        · exact k.val o' ho' hn
      · rcases k.src k' v e with h | ⟨o', h1, h2⟩
        · exact .inl h
        · exact .inr ⟨o', List.mem_cons_of_mem _ h1, h2⟩
    · rename_i he
      split at hx
      · exact hx.elim
      rename_i d hdst
      have hfd := hf o (List.mem_cons_self ..) d hdst
      have hE1 : ∀ v, Ext tm ((d, v) :: tm) := fun v => Ext.cons (by rw [hfd]; rfl)
      have go : ∀ v, PO P ρ o ⟨n, need o.op tm, h, ms, h0⟩ v → (hfree o.op = true → ∀ hh, PO P ρ o ⟨n, need o.op tm, hh, ms, h0⟩ v) → XM P ρ ge n h ms h0 (i + 1) r ((d, v) :: tm) K → ∃ tm', MFin P ρ n h ms h0 (o :: r) tm tm' ∧ K tm' := by
        intro v hp hpf hk
        obtain ⟨tm', k, hK⟩ := XM_fin r (i + 1) _ K hk (fun o' ho' d' hd' => by
          rw [look_cons, if_neg (fun e => hd.1 o' ho' d hdst (by rw [hd', e]))]
          exact hf o' (List.mem_cons_of_mem _ ho') d' hd') hd.2
        have hE := (hE1 v).trans k.ext
        refine ⟨tm', ⟨hE, fun o' ho' hn => ?_, fun k' u e => ?_⟩, hK⟩
        · rcases List.mem_cons.1 ho' with rfl | ho'
          · exact ⟨d, v, hdst, k.ext d v (by rw [look_cons, if_pos rfl]), PO_mono (need_mono hE _) hp, fun hh q => PO_mono (need_mono hE _) (hpf hh q)⟩
          · exact k.val o' ho' hn
        · rcases k.src k' u e with h | ⟨o', h1, h2⟩
          · rw [look_cons] at h
            split at h
            · rename_i hk'; subst hk'; exact .inr ⟨o, List.mem_cons_self .., he, hdst⟩
            · exact .inl h
          · exact .inr ⟨o', List.mem_cons_of_mem _ h1, h2⟩
      split at hx
      · obtain ⟨v, hp, hk⟩ := XF_sound (P := P) (ρ := ρ) (n := n) (ms := ms) (h0 := h0) hx
        exact go v (hp h) (fun _ => hp) hk
      · rename_i hnf
        rcases XOG_sound hx with hS | ⟨v, hp, hk⟩
        · exact hS.elim
        · exact go v hp (fun q => by rw [q] at hnf; cases hnf) hk
def effAt (l : List Oper) (i : Nat) : Prop := ∃ o, l[i]? = some o ∧ isEff o.op = true
structure ESpec (l : List Oper) (i : Nat) : Prop where
  dst : ∀ o, l[i]? = some o → o.dst = none
  prev : (∃ q, q < i ∧ effAt l q ∧ (∀ x, q < x → x < i → ¬ effAt l x) ∧ edgeB l i q = true) ∨ ((∀ x, x < i → ¬ effAt l x) ∧ ∀ j oj, l[j]? = some oj → hfree oj.op = false → isEff oj.op = false → edgeB l i j = true)
theorem effChain_spec {l : List Oper} : ∀ (r : List Oper) (p : Option Nat) (i : Nat), l.drop i = r → effChain l p i r = true → (match p with | some q => q < i ∧ effAt l q ∧ ∀ x, q < x → x < i → ¬ effAt l x | none => ∀ x, x < i → ¬ effAt l x) → ∀ j, i ≤ j → effAt l j → ESpec l j
  | [], p, i, hd, _, _, j, hj, ⟨o, ho, _⟩ => by
    have h1 := List.drop_eq_nil_iff.1 hd
    have h2 := (List.getElem?_eq_some_iff.1 ho).1
    omega
  | o :: r, p, i, hd, hc, hp, j, hj, he => by
    have ho : l[i]? = some o := by rw [← List.head?_drop, hd]; rfl
    have hd' : l.drop (i + 1) = r := by rw [← List.tail_drop, hd]; rfl
    simp only [effChain] at hc
    split at hc
    · rename_i hn
      have hni : ¬ effAt l i := fun ⟨o', ho', he'⟩ => by rw [ho] at ho'; injection ho' with ho'; subst ho'; rw [hn] at he'; cases he'
      refine effChain_spec r p (i + 1) hd' hc ?_ j (by rcases Nat.lt_or_ge i j with h | h; · omega
                                                       · exact absurd he (by rw [show j = i by omega]; exact hni)) he
      cases p with
      | some q => exact ⟨by omega, hp.2.1, fun x h1 h2 => by by_cases e : x = i; · rw [e]; exact hni
                                                             · exact hp.2.2 x h1 (by omega)⟩
      | none => exact fun x h2 => by by_cases e : x = i; · rw [e]; exact hni
                                     · exact hp x (by omega)
    · rename_i hy
      simp only [Bool.and_eq_true] at hc
      obtain ⟨hdst, hpr, hr⟩ := hc
      rcases Nat.lt_or_ge i j with h | h
      · exact effChain_spec r (some i) (i + 1) hd' hr ⟨by omega, ⟨o, ho, hy⟩, fun x h1 h2 => by omega⟩ j (by omega) he
      · have : j = i := by omega
        subst this
        refine ⟨fun o' ho' => by rw [ho] at ho'; injection ho' with ho'; subst ho'; simpa using hdst, ?_⟩
        cases p with
        | some q => exact .inl ⟨q, hp.1, hp.2.1, hp.2.2, hpr⟩
        | none =>
          refine .inr ⟨hp, fun k ok hk h1 h2 => ?_⟩
          rw [List.all_eq_true] at hpr
          have := hpr (ok, k) (by rw [List.mem_zipIdx_iff_getElem?]; exact hk)
          simpa [h1, h2] using this
theorem XE_skip {tm : TM} {K : Heap → Prop} : ∀ (a b : List Oper) (h : Heap), (∀ o ∈ a, isEff o.op = false) → XE P ρ n ms h0 (a ++ b) tm h K → XE P ρ n ms h0 b tm h K
  | [], b, h, _, hx => hx
  | o :: a, b, h, ha, hx => by
    simp only [List.cons_append, XE, ha o (List.mem_cons_self ..)] at hx
    exact XE_skip a b h (fun o ho => ha o (List.mem_cons_of_mem _ ho)) hx
structure MJ (P : Program) (ρ : Option Nat) (l : List Oper) (n : Nat) (h : Heap) (ms : List Nat) (h0 : Heap) (tm1 tm' : TM) (K : Heap → Prop) (S : Nat → Bool) (σ : AS) (p : Nat) : Prop where
  hp : p ≤ l.length
  xe : XE P ρ n ms h0 (l.drop p) tm' σ.h K
  eff : ∀ i, effAt l i → (S i = true ↔ i < p)
  heap : σ.h = h ∨ ∃ i, effAt l i ∧ S i = true
  back : ∀ i, S i = true → ∀ j, edgeB l i j = true → S j = true
  n : σ.n = n
  ms : σ.ms = ms
  h0 : σ.h0 = h0
  keep : ∀ k v, look tm1 k = some v → look σ.tm k = some v
  known : ∀ i o d v, l[i]? = some o → isEff o.op = false → S i = true → o.dst = some d → look tm' d = some v → look σ.tm d = some v
theorem AW_drawM {id : Nat} {tm tm1 : TM} (hl : ops.toList = l) (hm : P.follows .mixedOrders = true) (hck : chkM n l = true) (h1 : ∀ k v, look tm1 k = some v → notDst l k = true ∧ look tm k = some v)
    (hx : XM P ρ ge n h ms h0 0 l tm1 fun tm' => XE P ρ n ms h0 l tm' h fun h' => Q .normal ⟨n, tm', h', ms, h0⟩) : AW P ρ (.region id ops true) Q ⟨n, tm, h, ms, h0⟩ := by
  unfold chkM at hck
  simp only [Bool.and_eq_true] at hck
  obtain ⟨hok, hch, hnd, hall⟩ := hck
  have hd := drawOk2_spec hok
  have hspec := fun i (hi : effAt l i) => effChain_spec l none 0 rfl hch (fun x hx => by omega) i (Nat.zero_le _) hi
  have hnodst : ∀ k v, look tm1 k = some v → ∀ o ∈ l, o.dst ≠ some k := fun k v e o ho => by
    obtain ⟨i, hi⟩ := List.mem_iff_getElem?.1 ho
    exact notDst_spec (h1 k v e).1 hi
  obtain ⟨tm', hf, hK⟩ := XM_fin l 0 tm1 _ hx (fun o ho d hd' => by
    cases e : look tm1 d with
    | none => rfl
    | some v => exact absurd hd' (hnodst d v e o ho)) (by
      rw [List.pairwise_iff_getElem]
      intro i j hi hj hij d hdi hdj
      have := hd.once i j d (by simp [dstAt, List.getElem?_eq_getElem hi, hdi]) (by simp [dstAt, List.getElem?_eq_getElem hj, hdj])
      omega)
  have hneed : ∀ i o s, l[i]? = some o → s ∈ opSlots o.op → needOk l i s = true := by
    intro i o s hi hs
    rw [List.all_eq_true] at hnd
    have := hnd (o, i) (by rw [List.mem_zipIdx_iff_getElem?]; exact hi)
    rw [List.all_eq_true] at this
    exact this s hs
  refine AW_drawJ (σ := ⟨n, tm, h, ms, h0⟩) (fun S σ' => ∃ p, MJ P ρ l n h ms h0 tm1 tm' (fun h' => Q .normal ⟨n, tm', h', ms, h0⟩) S σ' p) hl hm hok ?_ ?_ ?_
  · exact ⟨0, Nat.zero_le _, hK, fun i _ => by simp, .inl rfl, fun _ h => by simp at h, rfl, rfl, rfl, fun k v e => (h1 k v e).2, fun _ _ _ _ _ _ h => by simp at h⟩
  · rintro S σ' i o ⟨p, J⟩ hi hSi hedge
    have hgd : o.guard = none ∧ (isEff o.op = true ∨ ∃ d, o.dst = some d ∧ d < n) := by
      rw [List.all_eq_true] at hall
      have := hall o (List.mem_of_getElem? hi)
      simp only [Bool.and_eq_true, Bool.or_eq_true] at this
      refine ⟨by simpa using this.1, ?_⟩
      rcases this.2 with h | h
      · exact .inl h
      · right
        split at h
        · rename_i d hd'; exact ⟨d, hd', by simp [Nat.blt] at h; exact h⟩
        · cases h
    have hneedE : Ext (need o.op tm') σ'.tm := by
      intro s v e
      have h2 := mem_needL (look_mem e)
      rcases hf.src s v h2.1 with h3 | ⟨oj, hoj, hej, hdj⟩
      · exact J.keep s v h3
      · obtain ⟨j, hj⟩ := List.mem_iff_getElem?.1 hoj
        have hn := hneed i o s hi h2.2
        unfold needOk at hn
        rw [Bool.or_eq_true] at hn
        rcases hn with hn | hn
        · exact absurd hdj (notDst_spec hn hj)
        · rw [List.any_eq_true] at hn
          obtain ⟨j', _, hn⟩ := hn
          rw [Bool.and_eq_true] at hn
          have hd' : dstAt l j' = some s := by
            have := hn.2
            split at this
            · rename_i d hd'; rw [hd', Nat.eq_of_beq_eq_true this]
            · cases this
          have := hd.once j j' s (by simp [dstAt, hj, hdj]) hd'
          subst this
          exact J.known j oj s v hj hej (hedge j hn.1) hdj h2.1
    obtain ⟨n', tmc, hc, ms', h0'⟩ := σ'
    have en : n' = n := J.n
    have em : ms' = ms := J.ms
    have e0 : h0' = h0 := J.h0
    subst en; subst em; subst e0
    by_cases hef : isEff o.op = true
    · have hat : effAt l i := ⟨o, hi, hef⟩
      have sp := hspec i hat
      have hpi : p ≤ i := by
        rcases Nat.lt_or_ge i p with h | h
        · have := (J.eff i hat).2 h; rw [hSi] at this; cases this
        · exact h
      have hmid : ∀ x, p ≤ x → x < i → ¬ effAt l x := by
        intro x hx1 hx2 hex
        rcases sp.prev with ⟨q, hq1, hq2, hq3, hq4⟩ | ⟨hq, _⟩
        · have hSq := hedge q hq4
          have := (J.eff q hq2).1 hSq
          exact hq3 x (by omega) hx2 hex
        · exact hq x hx2 hex
      have hxe := J.xe
      have hsplit : l.drop p = (l.drop p).take (i - p) ++ (o :: l.drop (i + 1)) := by
        have h3 : l.drop i = o :: l.drop (i + 1) := by
          have hil := (List.getElem?_eq_some_iff.1 hi).1
          rw [List.drop_eq_getElem_cons hil]
          congr 1
          have := hi
          rw [List.getElem?_eq_getElem hil] at this
          injection this
        rw [← h3]
        conv => lhs; rw [← List.take_append_drop (i - p) (l.drop p), List.drop_drop]
        rw [show p + (i - p) = i by omega]
      rw [hsplit] at hxe
      have hxe := XE_skip _ _ _ (fun ox hox => by
        obtain ⟨x, hx⟩ := List.mem_iff_getElem?.1 hox
        have hlt := (List.getElem?_eq_some_iff.1 hx).1
        rw [List.getElem?_take, if_pos (by simp at hlt; omega), List.getElem?_drop] at hx
        cases e : isEff ox.op with
        | false => rfl
        | true => exact absurd ⟨ox, hx, e⟩ (hmid (p + x) (by omega) (by simp at hlt; omega))) hxe
      simp only [XE, hef] at hxe
      obtain ⟨R, hM, hR⟩ := hxe
      have hdn := sp.dst o hi
      refine ⟨hgd.1, by rw [hdn]; rfl, R, MO_sub hneedE hM, fun u h' hu => ⟨i + 1, ?_⟩⟩
      rw [hdn]
      refine ⟨(List.getElem?_eq_some_iff.1 hi).1, hR u h' hu, fun x hx => ?_, .inr ⟨i, hat, by simp⟩, fun x hx j hj => ?_, rfl, rfl, rfl, J.keep, fun x ox d v hx hn hS => ?_⟩
      · by_cases e : i = x
        · subst e; simp
        · simp only [if_neg e]
          rw [J.eff x hx]
          constructor
          · intro h; omega
          · intro h
            rcases Nat.lt_or_ge x p with h2 | h2
            · exact h2
            · exact absurd hx (hmid x h2 (by omega))
      · by_cases e : i = j
        · simp [e]
        · simp only [if_neg e]
          by_cases e2 : i = x
          · subst e2; exact hedge j hj
          · simp only [if_neg e2] at hx; exact J.back x hx j hj
      · by_cases e : i = x
        · subst e; rw [hi] at hx; injection hx with hx; subst hx; rw [hef] at hn; cases hn
        · simp only [if_neg e] at hS; exact J.known x ox d v hx hn hS
    · have hef : isEff o.op = false := by simpa using hef
      obtain ⟨d, hdd, hdn⟩ := hgd.2.resolve_left (by rw [hef]; simp)
      obtain ⟨d', v, hd', hv, hp, hpf⟩ := hf.val o (List.mem_of_getElem? hi) hef
      rw [hdd] at hd'
      injection hd' with hd'
      subst hd'
      have hPO : PO P ρ o ⟨n', need o.op tm', hc, ms', h0'⟩ v := by
        rcases J.heap with e | ⟨x, hx, hSx⟩
        · have : hc = h := e
          subst this; exact hp
        · cases hfo : hfree o.op with
          | true => exact hpf hfo hc
          | false =>
            -- an effect has run: so the first one, and all that reads memory
            obtain ⟨x0, ⟨hx0, hS0⟩, hmin⟩ := exists_least (p := fun x => effAt l x ∧ S x = true) ⟨x, hx, hSx⟩
            have hfirst : ∀ y, y < x0 → ¬ effAt l y := by
              intro y hy hey
              have h2 := (J.eff x0 hx0).1 hS0
              have h3 := (J.eff y hey).2 (by omega)
              have := hmin y ⟨hey, h3⟩
              omega
            rcases (hspec x0 hx0).prev with ⟨q, hq1, hq2, _, _⟩ | ⟨_, hq⟩
            · exact absurd hq2 (hfirst q hq1)
            · have := J.back x0 hS0 i (hq i o hi hfo hef)
              rw [hSi] at this; cases this
      refine ⟨hgd.1, by rw [hdd]; exact Nat.ble_eq_true_of_le hdn, _, (PO_mono hneedE hPO).mo, ?_⟩
      rintro v' h' ⟨rfl, rfl⟩
      refine ⟨p, ?_⟩
      rw [hdd]
      have hoth : ∀ k, k ≠ d → ∀ u, look ((d, u) :: tmc) k = look tmc k := fun k hk u => by rw [look_cons, if_neg (Ne.symm hk)]
      refine ⟨J.hp, J.xe, fun x hx => ?_, ?_, fun x hx j hj => ?_, rfl, rfl, rfl, fun k u e => ?_, fun x ox d2 v2 hx hn hS hd2 hv2 => ?_⟩
      · by_cases e : i = x
        · subst e; obtain ⟨o', ho', he'⟩ := hx; rw [hi] at ho'; injection ho' with ho'; subst ho'; rw [hef] at he'; cases he'
        · simp only [if_neg e]; exact J.eff x hx
      · rcases J.heap with e | ⟨x, hx, hSx⟩
        · exact .inl e
        · exact .inr ⟨x, hx, by simp [hSx]⟩
      · by_cases e : i = j
        · simp [e]
        · simp only [if_neg e]
          by_cases e2 : i = x
          · subst e2; exact hedge j hj
          · simp only [if_neg e2] at hx; exact J.back x hx j hj
      · have hkd : k ≠ d := fun hk => hnodst k u e o (List.mem_of_getElem? hi) (by rw [hdd, hk])
        show look ((d, v') :: tmc) k = some u
        rw [hoth k hkd]
        exact J.keep k u e
      · show look ((d, v') :: tmc) d2 = some v2
        by_cases e : i = x
        · subst e
          rw [hi] at hx; injection hx with hx; subst hx
          rw [hdd] at hd2; injection hd2 with hd2; subst hd2
          rw [hv] at hv2; injection hv2 with hv2
          rw [look_cons, if_pos rfl, hv2]
        · simp only [if_neg e] at hS
          rw [hoth d2 (fun hk => e (by
            subst hk
            exact hd.once i x d2 (by simp [dstAt, hi, hdd]) (by simp [dstAt, hx, hd2])))]
          exact J.known x ox d2 v2 hx hn hS hd2 hv2
  · rintro S ⟨n', tmc, hc, ms', h0'⟩ hS ⟨p, J⟩
    have en : n' = n := J.n
    have em : ms' = ms := J.ms
    have e0 : h0' = h0 := J.h0
    subst en; subst em; subst e0
    have hq : Q .normal ⟨n', tm', hc, ms', h0'⟩ := by
      have := J.xe
      rw [← List.append_nil (l.drop p)] at this
      exact XE_skip _ _ _ (fun ox hox => by
        obtain ⟨x, hx⟩ := List.mem_iff_getElem?.1 hox
        rw [List.getElem?_drop] at hx
        cases e : isEff ox.op with
        | false => rfl
        | true =>
          have hat : effAt l (p + x) := ⟨ox, hx, e⟩
          have := (J.eff _ hat).1 (hS _ (List.getElem?_eq_some_iff.1 hx).1)
          omega) this
    refine AL_ext (tm := tm') ?_ (AL_nil hq)
    intro k v e
    rcases hf.src k v e with h | ⟨o, ho, hn, hd'⟩
    · exact J.keep k v h
    · obtain ⟨i, hi⟩ := List.mem_iff_getElem?.1 ho
      exact J.known i o k v hi hn (hS i (List.getElem?_eq_some_iff.1 hi).1) hd' e
end
end Go.AM
end
section
set_option linter.unusedVariables false
set_option linter.unusedSimpArgs false
namespace Go.AM
open Go.RowKit
def isStore : Op → Bool
  | .store .. => true
  | _ => false
def multiS : Bool → List Oper → Bool
  | _, [] => false
  | one, o :: r => match isEff o.op with
    | false => multiS one r
    | true => match isStore o.op with
      | false => false
      | true => match one with
        | true => r.all fun o => !isEff o.op || isStore o.op
        | false => multiS true r
def takeP : List Oper → List Oper
  | [] => []
  | o :: r => match isEff o.op with
    | true => []
    | false => o :: takeP r
def dropP : List Oper → List Oper
  | [] => []
  | o :: r => match isEff o.op with
    | true => o :: r
    | false => dropP r
theorem takeP_take : ∀ l : List Oper, l.take (takeP l).length = takeP l ∧ l.drop (takeP l).length = dropP l
  | [] => ⟨rfl, rfl⟩
  | o :: r => by
    simp only [takeP, dropP]
    split
    · simp
    · simp [takeP_take r]
def rid : Code → Option Nat
  | .region id _ _ => some id
  | .seq a b | .cond _ a b => match rid a with
    | some i => some i
    | none => rid b
  | .block _ c | .loop c | .scope c => rid c
  | _ => none
def stN (id : Nat) : List (Nat × Nat) → Bool
  | [] => false
  | (k, i) :: r => match Nat.beq k id && Nat.beq i 0 with
    | true => true
    | false => stN id r
def stI (id : Nat) : List (Nat × Nat) → List Nat
  | [] => []
  | (k, i) :: r => match Nat.beq k id with
    | true => match i with
      | 0 => stI id r
      | i + 1 => i :: stI id r
    | false => stI id r
def geI (id : Nat) : List (Nat × Nat) → List Nat
  | [] => []
  | (k, i) :: r => match Nat.beq k id with
    | true => i :: geI id r
    | false => geI id r
def stC (st : List (Nat × Nat)) (c : Code) : Bool := match rid c with
  | some id => stN id st
  | none => false
def cleanK (l : List Oper) : TM → (TM → Prop) → Prop
  | [], K => K []
  | p :: r, K => match notDst l p.1 with
    | true => cleanK l r fun t => K (p :: t)
    | false => cleanK l r K
theorem cleanK_spec {l : List Oper} : ∀ {tm : TM} {K : TM → Prop}, cleanK l tm K → ∃ tm1, (∀ k v, look tm1 k = some v → notDst l k = true ∧ look tm k = some v) ∧ K tm1
  | [], K, h => ⟨[], (fun k v e => by cases e), h⟩
  | (q, u) :: r, K, h => by
    simp only [cleanK] at h
    split at h
    · rename_i hq
      obtain ⟨t, h1, h2⟩ := cleanK_spec h
      refine ⟨_, fun k v e => ?_, h2⟩
      rw [look_cons] at e ⊢
      split at e
      · rename_i hk; subst hk; rw [if_pos rfl]; exact ⟨hq, e⟩
      · rename_i hk; rw [if_neg hk]; exact h1 k v e
    · rename_i hq
      obtain ⟨t, h1, h2⟩ := cleanK_spec h
      refine ⟨t, fun k v e => ?_, h2⟩
      rw [look_cons, if_neg (fun hk => by subst hk; rw [(h1 _ v e).1] at hq; cases hq)]
      exact h1 k v e
def endL (P : Program) (ρ : Option Nat) (ops : Array Oper) (Q : Exit → AS → Prop) (σ : AS) : List Oper → Prop
  | [] => Q .normal σ
  | l => AL P ρ ops l Q σ
section
variable (P : Program) (ρ : Option Nat) (st ge : List (Nat × Nat))
def XW : Code → (Exit → AS → Prop) → Nat → TM → Heap → List Nat → Heap → Prop
  | .skip, Q, n, tm, h, ms, h0 => Q .normal ⟨n, tm, h, ms, h0⟩
  | .label _, Q, n, tm, h, ms, h0 => Q .normal ⟨n, tm, h, ms, h0⟩
  | .exit id, Q, n, tm, h, ms, h0 => Q (.exit id) ⟨n, tm, h, ms, h0⟩
  | .goto l, Q, n, tm, h, ms, h0 => Q (.goto l) ⟨n, tm, h, ms, h0⟩
  | .ret, Q, n, tm, h, ms, h0 => AW P ρ .ret Q ⟨n, tm, h, ms, h0⟩
  | .seq x y, Q, n, tm, h, ms, h0 => match stC st x with
    | true => AW P ρ (.seq x y) Q ⟨n, tm, h, ms, h0⟩
    | false => XW x (fun e σ => match e, σ with
      | .normal, ⟨n', tm', h', ms', h0'⟩ => XW y Q n' tm' h' ms' h0'
      | e, σ => Q e σ) n tm h ms h0
  | .cond c x y, Q, n, tm, h, ms, h0 => match c with
    | .tmp t => match look tm t with
      | some (.lit (.bool b)) => (b = true → XW x Q n tm h ms h0) ∧ (b = false → XW y Q n tm h ms h0)
      | _ => False
    | _ => False
  | .block id c, Q, n, tm, h, ms, h0 => XW c (fun e σ => match e with
      | .exit id' => match Nat.beq id' id with
        | true => Q .normal σ
        | false => Q (.exit id') σ
      | e => Q e σ) n tm h ms h0
  | .region id ops draw, Q, n, tm, h, ms, h0 => match stN id st with
    | true => AW P ρ (.region id ops draw) Q ⟨n, tm, h, ms, h0⟩
    | false => match draw with
      | false => XL P ρ ops (stI id st) (geI id ge) n h ms h0 ops.toList.length none 0 ops.toList tm (fun l' tm' => AL P ρ ops l' Q ⟨n, tm', h, ms, h0⟩) (fun tm' => Q .normal ⟨n, tm', h, ms, h0⟩)
      | true => match multiS false ops.toList with
        | true => (P.follows .mixedOrders = true ∧ chkM n ops.toList = true) ∧ cleanK ops.toList tm fun tm1 => XM P ρ (geI id ge) n h ms h0 0 ops.toList tm1 fun tm' => XE P ρ n ms h0 ops.toList tm' h fun h' => Q .normal ⟨n, tm', h', ms, h0⟩
        | false => (P.follows .mixedOrders = true ∧ drawChk n (takeP ops.toList).length ops.toList = true) ∧ cleanK ops.toList tm fun tm1 => XL P ρ ops [] (geI id ge) n h ms h0 (takeP ops.toList).length none 0 (takeP ops.toList) tm1 (fun _ _ => False) (fun tm' => endL P ρ ops Q ⟨n, tm', h, ms, h0⟩ (dropP ops.toList))
  | c, Q, n, tm, h, ms, h0 => AW P ρ c Q ⟨n, tm, h, ms, h0⟩
end
section
variable {P : Program} {ρ : Option Nat} {n : Nat} {tm : TM} {h : Heap} {ms : List Nat} {h0 : Heap} {Q : Exit → AS → Prop}
theorem AW_xr {id : Nat} {ops : Array Oper} (is gs : List Nat) (hx : XL P ρ ops is gs n h ms h0 ops.toList.length none 0 ops.toList tm (fun l' tm' => AL P ρ ops l' Q ⟨n, tm', h, ms, h0⟩) (fun tm' => Q .normal ⟨n, tm', h, ms, h0⟩)) : AW P ρ (.region id ops false) Q ⟨n, tm, h, ms, h0⟩ :=
  AW_region rfl (AL_x is gs 0 hx)
theorem AW_xd {id : Nat} {ops : Array Oper} (gs : List Nat) (hk : P.follows .mixedOrders = true ∧ drawChk n (takeP ops.toList).length ops.toList = true)
    (hx : cleanK ops.toList tm fun tm1 => XL P ρ ops [] gs n h ms h0 (takeP ops.toList).length none 0 (takeP ops.toList) tm1 (fun _ _ => False) (fun tm' => endL P ρ ops Q ⟨n, tm', h, ms, h0⟩ (dropP ops.toList))) : AW P ρ (.region id ops true) Q ⟨n, tm, h, ms, h0⟩ := by
  obtain ⟨ht, hd⟩ := takeP_take ops.toList
  obtain ⟨tm1, h1, hx⟩ := cleanK_spec hx
  refine AW_drawX (tm1 := tm1) (m := (takeP ops.toList).length) (fun tm' => endL P ρ ops Q ⟨n, tm', h, ms, h0⟩ (dropP ops.toList)) (fun tm' hk' => ?_) rfl hk.1 hk.2 h1 (by rw [ht]; exact hx)
  rw [hd]
  generalize dropP ops.toList = dl at hk' ⊢
  cases dl with
  | cons o l => exact hk'
  | nil => exact AL_nil hk'
theorem XW_sound (st ge : List (Nat × Nat)) : ∀ (c : Code) (Q : Exit → AS → Prop) (n : Nat) (tm : TM) (h : Heap) (ms : List Nat) (h0 : Heap), XW P ρ st ge c Q n tm h ms h0 → AW P ρ c Q ⟨n, tm, h, ms, h0⟩ := by
  intro c
  induction c with
  | skip => intro Q n tm h ms h0 hx; exact AW_skip hx
  | label l => intro Q n tm h ms h0 hx; exact AW_label hx
  | exit id => intro Q n tm h ms h0 hx; exact AW_exit hx
  | goto l => intro Q n tm h ms h0 hx; exact AW_goto hx
  | ret => intro Q n tm h ms h0 hx; exact hx
  | seq x y ihx ihy =>
    intro Q n tm h ms h0 hx
    simp only [XW] at hx
    split at hx
    · exact hx
    · refine AW_seq (AW_mono (ihx _ n tm h ms h0 hx) ?_)
      intro e σ hq
      cases e <;> first | exact hq | exact ihy _ _ _ _ _ _ hq
  | cond c x y ihx ihy =>
    intro Q n tm h ms h0 hx
    simp only [XW] at hx
    split at hx
    · split at hx
      · rename_i t b hb
        exact AW_cond b hb (fun e => ihx _ _ _ _ _ _ (hx.1 e)) (fun e => ihy _ _ _ _ _ _ (hx.2 e))
      · exact hx.elim
    · exact hx.elim
  | block id c ih =>
    intro Q n tm h ms h0 hx
    simp only [XW] at hx
    refine AW_block (AW_mono (ih _ n tm h ms h0 hx) ?_)
    intro e σ hq
    cases e with
    | exit id' =>
      simp only [bq]
      dsimp only at hq
      split at hq
      · rename_i hb; rw [if_pos (Nat.eq_of_beq_eq_true hb)]; exact hq
      · rename_i hb; rw [if_neg (fun e => by subst e; simp at hb)]; exact hq
    | _ => exact hq
  | region id ops draw =>
    intro Q n tm h ms h0 hx
    simp only [XW] at hx
    split at hx
    · exact hx
    · split at hx
      · exact AW_xr _ _ hx
      · split at hx
        · obtain ⟨tm1, h1, h2⟩ := cleanK_spec hx.2
          exact AW_drawM rfl hx.1.1 hx.1.2 h1 h2
        · exact AW_xd _ hx.1 hx.2
  | _ => intro Q n tm h ms h0 hx; simp only [XW] at hx; exact hx
theorem AW_x {c : Code} (st ge : List (Nat × Nat)) (hx : XW P ρ st ge c Q n tm h ms h0) : AW P ρ c Q ⟨n, tm, h, ms, h0⟩ := XW_sound st ge c Q n tm h ms h0 hx
theorem AW_it {c : Code} {α : Type} (st ge : List (Nat × Nat)) (C : TM) (S : α → TM) (H : α → Heap) (I : α → Prop) (μ : α → Nat) (a0 : α) (hC : Looks tm C) (hl : Looks tm (S a0)) (hh : h = H a0) (hi : I a0)
    (round : ∀ a, I a → XW P ρ st ge c (sq (fun σ' => ∃ a', I a' ∧ μ a' < μ a ∧ At σ' n (S a' ++ C) (H a') ms h0) Q) n (S a ++ C) (H a) ms h0) : AW P ρ (.loop c) Q ⟨n, tm, h, ms, h0⟩ := by
  refine AW_iter (fun a => S a ++ C) H I μ a0 ?_ hh hi (fun a ha => XW_sound st ge _ _ _ _ _ _ _ (round a ha))
  have : ∀ A : TM, Looks tm A → Looks tm (A ++ C) := by
    intro A
    induction A with
    | nil => intro _; exact hC
    | cons p r ih => intro hA; obtain ⟨k, v⟩ := p; exact ⟨hA.1, ih hA.2⟩
  exact this _ hl
theorem fI {i j : Nat} (hb : i + j ≤ 9223372036854775807) : Fit .add .i64 .i64 (i : Int) (j : Int) ((i + j : Nat) : Int) := by
  refine ⟨rfl, ?_, trivial⟩
  simp only [intOp]
  rw [i64w (by omega) (by omega), Int.natCast_add]
theorem f1 {i : Nat} (hb : i + 1 ≤ 9223372036854775807) : Fit .add .i64 .i64 (i : Int) 1 ((i + 1 : Nat) : Int) := fI hb
theorem fz {op : BinOp} {k : IntKind} {i j z z' : Int} (hv : intOp op k i j = some (.int k z)) (hd : divSafe op j) (hz : z = z') : Fit op k k i j z' := by subst hz; exact ⟨rfl, hv, hd⟩
theorem lm {α β : Type} {f : α → β} {l : List α} : (l.map f).length = l.length := List.length_map ..
theorem brD {p : Prop} [Decidable p] {A B : Prop} (h1 : p → A) (h2 : ¬p → B) : (decide p = true → A) ∧ (decide p = false → B) := ⟨fun e => h1 (of_decide_eq_true e), fun e => h2 (of_decide_eq_false e)⟩
end
end Go.AM
end
section
namespace Go.AM.D
structure Term where
  kind : Int
  text : ByteArray
  extra : ByteArray
  deriving DecidableEq
structure Slot where
  var : ByteArray
  term : Term
  deriving DecidableEq
structure Pat where
  a : Slot
  b : Slot
  c : Slot
  deriving DecidableEq
structure Lt where
  kind : Int
  pat : Pat
  a : Slot
  b : Slot
  deriving DecidableEq
structure Rule where
  head : Pat
  body : List Lt
  deriving DecidableEq
def i64 (n : Int) : AV := .lit (.int .i64 n)
def eTerm (t : Term) : List AV := [.lit (.int .i64 t.kind), .lit (.string t.text), .lit (.string t.extra)]
def eSlot (s : Slot) : List AV := [.lit (.string s.var), .lit (.int .i64 s.term.kind), .lit (.string s.term.text), .lit (.string s.term.extra)]
def ePat (p : Pat) : List AV := [.lit (.string p.a.var), .lit (.int .i64 p.a.term.kind), .lit (.string p.a.term.text), .lit (.string p.a.term.extra),
  .lit (.string p.b.var), .lit (.int .i64 p.b.term.kind), .lit (.string p.b.term.text), .lit (.string p.b.term.extra),
  .lit (.string p.c.var), .lit (.int .i64 p.c.term.kind), .lit (.string p.c.term.text), .lit (.string p.c.term.extra)]
def eLit (l : Lt) : List AV := .lit (.int .i64 l.kind) :: (ePat l.pat ++ (eSlot l.a ++ eSlot l.b))
def eBody (b : List Lt) : AV := .sl .any 21 (b.map eLit)
def eRule (r : Rule) : List AV := ePat r.head ++ [eBody r.body]
def eRules (l : List Rule) : AV := .sl .any 13 (l.map eRule)
def eTerms (l : List Term) : AV := .sl .any 3 (l.map eTerm)
end Go.AM.D
end
