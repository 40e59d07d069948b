/- A part of the proof: walks of the code and laws that they use (Am17, Wj, Wk, Wl, Wm, Wn, Wo, Am18, Wp, Wq, Wr, Am19, Na). Conditions: as each theorem names them. -/
import Derived.Laws.Externs
import Derived.Lib.Bytealg
import Derived.Test.YtdognapppnfpiaaDoorB11
section
set_option linter.unusedVariables false
set_option linter.unusedSimpArgs false
namespace Go.AM
open Go.RowKit
theorem PFn_extern {P : Program} {f : Nat} {fn : Func} {e : Array Value → Sem Value} {us : List Value} {u : Value} (hf : P.funcs[f]? = some fn) (hname : (fn.name == "runtime.NumGoroutine") = false) (hb : fn.body.isNone = true) (hn : Extern.findNext fn = none) (he : Extern.find fn = some e)
    (hr : ∀ w, (e us.toArray).run P w = .ok u w) (hu : u.oneCell' = true) : PFn P (.fn (.func f) [] []) (us.map AV.lit) (.lit u) := by
  intro h base I w fv vs h0 hw hfv hvs
  cases hfv with
  | fn _ _ _ vf vc hvf hvc k1 k2 =>
    have e1 : vf = #[] := Array.eq_empty_of_size_eq_zero hvf
    have e2 : vc = #[] := Array.eq_empty_of_size_eq_zero hvc
    subst e1; subst e2
    have e3 : vs = us.toArray := by
      apply Array.ext
      · simpa using hvs.1
      · intro i h1 h2
        have h3 : i < us.length := by simpa using h2
        have := hvs.2 i (.lit us[i]) (by simp [h3])
        have := VR.lit_inv this
        simpa [Array.getD_eq_getD_getElem?, h1] using this
    subst e3
    refine ⟨{ target := .fn (.func f) #[], args := #[] ++ us.toArray }, fun _ => rfl, ?_⟩
    have hrun : (invoke (.fn (.func f) #[]) (#[] ++ us.toArray)).run P w = .ok (.value u) w := by
      simp only [invoke, Array.append_empty, Array.empty_append]
      rw [run_callFunc_extern hf hname hb hn he]
      simp [hr]
    rw [hrun]
    exact ⟨u, rfl, I, .lit u, h, .refl _, hw, .lit _ hu, .refl _ _, .refl _, rfl, .refl _⟩
section
variable {P : Program} {ρ : Option Nat} {Q : Exit → AS → Prop} {o : Oper} {ops : Array Oper} {l : List Oper} {n d : Nat} {tm : List (Nat × AV)} {h h0 : Heap} {ms : List Nat} {σ : AS}
theorem ghost_mp {b : Nat} {ks : List CK} {agg : Bool} {es : List (List Value × AV)} {tm' : List (Nat × AV)} (hb : σ.h b = some (.map ks agg es)) (ht : ∀ k y, look tm' k = some y → look σ.tm k = some y ∨ (look σ.tm k = some (.mp b) ∧ y = .im ks agg es)) : Ghost σ { σ with tm := tm', h := σ.h.upd b none } := by
  intro g I a w hs
  obtain ⟨hbase, ents, clock, hw, hsz, hent, hfree⟩ := hs.wr.obj b _ hb
  obtain ⟨s1, hle⟩ := (hs.delObj b (fun o e => by rw [hb] at e; cases e; rfl)).setMp b ents.toList hfree (clock := clock) (by simpa using hw) (by simp [AS.setH])
  refine ⟨_, ⟨s1.le, s1.below, s1.base, s1.wr, s1.size, fun k y hy => ?_, ⟨s1.marks.defs, s1.marks.nodup, s1.marks.here, s1.marks.keep, s1.marks.apart⟩⟩⟩
  rcases ht k y hy with hx | ⟨hx, rfl⟩
  · exact s1.slot k y hx
  · have := s1.slot k _ hx
    generalize a.tmps.getD k undef = u at this ⊢
    cases this with
    | mp =>
      refine .im ks agg es b ents.toList (by simp [Imm.setMp]) (by simpa using hsz) (fun i p e h1 h2 => ?_) (fun i p e h1 h2 => ?_)
      · have := hent i p e h1 (by simpa using h2); exact ⟨this.1, this.2.1⟩
      · have := hent i p e h1 (by simpa using h2); exact this.2.2.mono hle
theorem AL_mpf {b k : Nat} {ks : List CK} {agg : Bool} {es : List (List Value × AV)} (hk : look tm k = some (.mp b)) (hb : h b = some (.map ks agg es)) (kk : AL P ρ ops l Q ⟨n, (k, .im ks agg es) :: tm, h.upd b none, ms, h0⟩) : AL P ρ ops l Q ⟨n, tm, h, ms, h0⟩ := by
  refine AL_ghost (σ' := ⟨n, (k, .im ks agg es) :: tm, h.upd b none, ms, h0⟩) (ghost_mp (σ := ⟨n, tm, h, ms, h0⟩) hb fun q y hy => ?_) kk
  rw [look_cons] at hy
  by_cases hq : k = q
  · rw [if_pos hq] at hy
    injection hy with hy
    exact .inr ⟨hq ▸ hk, hy.symm⟩
  · rw [if_neg hq] at hy; exact .inl hy
theorem AL_makeMap {t : TypeId} (ks : List CK) (agg : Bool) (hg : o.guard = none) (hdst : o.dst = some d) (hd : Nat.blt d n = true) (ho : o.op = .makeMap t none) (k : ∀ b, h b = none → AL P ρ ops l Q ⟨n, (d, .mp b) :: tm, h.upd b (some (.map ks agg [])), ms, h0⟩) : AL P ρ ops (o :: l) Q ⟨n, tm, h, ms, h0⟩ :=
  AL_m hg hdst hd (MO_makeMap ks agg ho) fun v h' ⟨b, hb, e1, e2⟩ => by subst e1; subst e2; exact k b hb
theorem Heap.upd_upd (h : Heap) (b : Nat) (x y : Option AObj) : (h.upd b x).upd b y = h.upd b y := by
  funext q; simp only [Heap.upd]; split <;> rfl
theorem Heap.upd_none {h : Heap} {b : Nat} (hb : h b = none) (x : Option AObj) : (h.upd b x).upd b none = h := by
  funext q; simp only [Heap.upd]; split
  · rename_i e; rw [e, hb]
  · rfl
theorem AL_mapUpd {t kt et : TypeId} {m x y : Operand} {b : Nat} {ks : List CK} {agg : Bool} {es : List (List Value × AV)} {kv v : AV} {k : List Value} (hg : o.guard = none) (hdst : o.dst = none) (ho : o.op = .mapUpdate t m x y ∨ o.op = .insert t m x y) (ht : P.underlying t = some (.map kt et)) (hK : KeyF P kt agg ks)
    (hm : ev tm m = some (.mp b)) (hx : ev tm x = some kv) (hkv : akey agg kv = some k) (hk : kOks ks k = true) (hy : ev tm y = some v)
    (kk : AL P ρ ops l Q ⟨n, tm, h.upd b (some (.map ks agg (aput k v es))), ms, h0⟩) : AL P ρ ops (o :: l) Q ⟨n, tm, h.upd b (some (.map ks agg es)), ms, h0⟩ := by
  refine AL_u hg hdst (MO_mapUpdate ho ht hK hm (Heap.upd_same _ _ _) hx hkv hk hy) fun v h' ⟨_, e2⟩ => ?_
  rw [show h' = h.upd b (some (.map ks agg (aput k _ es))) from e2.trans (Heap.upd_upd _ _ _ _)]
  exact kk
theorem AL_mpf1 {b k : Nat} {ks : List CK} {agg : Bool} {es : List (List Value × AV)} (hk : look tm k = some (.mp b)) (hb : h b = none) (kk : AL P ρ ops l Q ⟨n, (k, .im ks agg es) :: tm, h, ms, h0⟩) : AL P ρ ops l Q ⟨n, tm, h.upd b (some (.map ks agg es)), ms, h0⟩ :=
  AL_mpf hk (Heap.upd_same _ _ _) (by rw [Heap.upd_none hb]; exact kk)
theorem PO_slice_ms {t e : TypeId} {S : Nat} {dd : TypeDesc} {x : Operand} {lo hi : Option Operand} {b off len cap : Nat} {i j : Int} (ho : o.op = .slice t x lo hi none) (ht : P.underlying t = some (.slice e)) (he : TyF P e dd S) (hx : ev σ.tm x = some (.ms b off S len cap))
    (hl : bnd σ.tm 0 lo = some i) (hh : bnd σ.tm len hi = some j) (h0 : 0 ≤ i) (h1 : i ≤ j) (h2 : j ≤ cap) (h3 : i = 0 ∨ i < cap) : PO P ρ o σ (.ms b (off + i.toNat * S) S (j.toNat - i.toNat) (cap - i.toNat)) := by
  refine PO_of (by rw [ho]; simp) fun g I a w hs => ?_
  have hv := hs.ev hx
  generalize hu : a.eval x = p at hv
  cases hv with
  | ms =>
    have hb := bounds_run (P := P) hs true len cap hl hh h0 h1 h2
    refine ⟨.slice (some ⟨b, off + i.toNat * S, none⟩) (j.toNat - i.toNat) (cap - i.toNat), ?_, .ms _ _ _ _ _⟩
    simp only [execOp, ho, hu, Instr.sliceAt, Instr.slice, Sem.run_bind, run_underlying ht, Result.andThen_ok, Option.map_none, hb, run_sizeOf' he, Sem.run_pure]
    by_cases hc1 : cap = i.toNat
    · have : i = 0 := by omega
      subst this
      simp only [Int.toNat_zero] at hc1
      subst hc1
      simp
    · rw [if_neg hc1, Option.map_some, add_plain ⟨b, off, none⟩ rfl]
theorem ghost_ms {b off S len cap k : Nat} {cs : List AV} {es : List (List AV)} (hk : look tm k = some (.ms b off S len cap)) (hb : h b = some (.row cs)) (hl : es.length = len) (he : ∀ e ∈ es, e.length = S) (hf : ∀ i e j a, es[i]? = some e → e[j]? = some a → cs[off + i * S + j]? = some a) (hc : len ≤ cap) :
    Ghost ⟨n, tm, h, ms, h0⟩ ⟨n, (k, .sl .any S es) :: tm, h.upd b none, ms, h0⟩ := by
  refine ghost_freeze (σ := ⟨n, tm, h, ms, h0⟩) (b := b) (cs := cs) hb fun q y hy => ?_
  rw [look_cons] at hy
  by_cases hq : k = q
  · rw [if_pos hq] at hy
    injection hy with hy
    subst hq; subst hy
    exact ⟨_, hk, .ms off S len cap es hl he hf hc⟩
  · rw [if_neg hq] at hy; exact ⟨y, hy, .refl _⟩
theorem AL_makeSl {t e : TypeId} {S by_ : Nat} {dd : TypeDesc} {x y : Operand} {c : Nat} {k k' : IntKind} {zs : List AV} (hg : o.guard = none) (hdst : o.dst = some d) (hd : Nat.blt d n = true) (ho : o.op = .makeSlice t x y) (ht : P.underlying t = some (.slice e)) (he : TyF P e dd S) (hz : ZeroF P e zs) (hzl : zs.length = S)
    (hb : (P.info? e).map (·.bytes) = some by_) (hx : ev tm x = some (.lit (.int k (c : Nat)))) (hy : ev tm y = some (.lit (.int k' (c : Nat)))) (hlim : by_ * c ≤ 281474976710656) (hc : c ≤ 9223372036854775807)
    (kk : ∀ b, h b = none → AL P ρ ops l Q ⟨n, (d, .ms b 0 S c c) :: tm, h.upd b (some (.row (azeros zs c))), ms, h0⟩) : AL P ρ ops (o :: l) Q ⟨n, tm, h, ms, h0⟩ :=
  AL_m hg hdst hd (MO_makeSlice ho ht he hz hzl hb hx hy (Nat.le_refl c) hlim hc) fun v h' ⟨b, hb, e1, e2⟩ => by subst e1; subst e2; exact kk b hb
end
end Go.AM
end
section
set_option maxRecDepth 100000
set_option linter.unusedVariables false
set_option linter.unusedSimpArgs false
namespace Go.AM.Tryd
open Go Go.AM Go.AM.D
def ixB (s : ByteArray) (c : Int) : Int := Lib.indexByte s.data.toList c.toNat.toUInt8
theorem ib118_ (s : ByteArray) (c : Int) : PFn PR (.fn (.func 118) [] []) [.lit (.string s), .lit (.int .u8 c)] (.lit (.int .i64 (ixB s c))) :=
 PFn_extern (us := [.string s, .int .u8 c]) Go.Proofs.Tryd.func118 (by rfl) rfl (by kernel_rfl) (by rfl) (fun w => Lib.run_indexByteString s c w) rfl
theorem ib114_ (s : ByteArray) (c : Int) : PFn PR (.fn (.func 114) [] []) [.lit (.string s), .lit (.int .u8 c)] (.lit (.int .i64 (ixB s c))) := by
 refine PFn_of Go.Proofs.Tryd.func114 rfl (by rfl) Go.Proofs.Tryd.ntmps114 rfl (by simp) fun h => ?_
 refine AW_seq (AW_region rfl ?_)
 refine qa (v := vi 0) ?_
 refine AL_nil (AW_seq (AW_region rfl ?_))
 refine qm ?_
 refine qm ?_
 refine qp (v := vi (ixB s c)) (PO_call rfl rfl rfl (ib118_ _ _)) ?_
 refine qa ?_
 refine AL_keep [(0,_),(1,_),(4,_)] ⟨rfl,rfl,rfl,trivial⟩ ?_
 refine AL_nil ?_
 refine AW_ret ?_
 exact ret_le2 (.inl rfl) rfl (by rfl) (.refl _)
theorem ib107_ (s : ByteArray) (c : Int) : PFn PR (.fn (.func 107) [] []) [.lit (.string s), .lit (.int .u8 c)] (.lit (.int .i64 (ixB s c))) := by
 refine PFn_of Go.Proofs.Tryd.func107 rfl (by rfl) Go.Proofs.Tryd.ntmps107 rfl (by simp) fun h => ?_
 refine AW_seq (AW_region rfl ?_)
 refine qa (v := vi 0) ?_
 refine AL_nil (AW_seq (AW_region rfl ?_))
 refine qm ?_
 refine qm ?_
 refine qp (v := vi (ixB s c)) (PO_call rfl rfl rfl (ib114_ _ _)) ?_
 refine qa ?_
 refine AL_keep [(0,_),(1,_),(4,_)] ⟨rfl,rfl,rfl,trivial⟩ ?_
 refine AL_nil ?_
 refine AW_ret ?_
 exact ret_le2 (.inl rfl) rfl (by rfl) (.refl _)
def blankB (i : Int) (c : Int) : Bool := !letterF c && (decide (i = 0) || !digitF c)
def blankL : Int → List UInt8 → Bool
 | _, [] => true
 | i, x :: l => if blankB i ((x : UInt8).toNat : Int) = true then false else blankL (i + 1) l
def blankF (s : ByteArray) : Bool := blankL 0 (bys s) && (decide ((s.size : Int) ≥ 1) && decide ((s.size : Int) ≤ 64))
def valU (s : ByteArray) : Bool := decide ((s.size : Int) ≤ 4000) && validU s
theorem blank_ (s : ByteArray) (hs : s.size ≤ 1048576) : PFn PR (.fn (.func 97) [] []) [.lit (.string s)] (.lit (.bool (blankF s))) := by
 have hsz := bsize s
 refine PFn_of Go.Proofs.Tryd.func97 rfl (by rfl) Go.Proofs.Tryd.ntmps97 rfl (by simp) fun h => ?_
 refine AW_seq (AW_region rfl ?_)
 refine qa (v := vb false) ?_
 refine AL_nil (AW_seq (AW_seq (AW_region rfl ?_)))
 refine qm ?_
 refine qp (v := vi (s.size : Int)) (PO_len_str rfl un9 rfl) ?_
 refine qm (v := vi 0) ?_
 refine AL_keep [(0,_),(2,_),(5,_),(6,_)] ⟨rfl,rfl,rfl,rfl,trivial⟩ ?_
 refine AL_nil (AW_block ?_)
 refine AW_iter (fun (i : Nat) => [(6, .lit (.int .i64 ((i : Nat) : Int))), (0, .lit (.string s)), (2, .lit (.bool false)), (5, .lit (.int .i64 (s.size : Int)))]) (fun (i : Nat) => h) (fun (i : Nat) => i ≤ (bys s).length ∧ blankL 0 (bys s) = blankL ((i : Nat) : Int) ((bys s).drop i)) (fun (i : Nat) => (bys s).length - i) (0) ⟨rfl, rfl, rfl, rfl, trivial⟩ rfl (⟨by omega, rfl⟩) ?_
 rintro i ⟨hIi, hSi⟩
 refine AW_seq (AW_region rfl ?_)
 refine qp (v := vb (decide ((((i : Nat) : Int) : Int) < (s.size : Int)))) pI ?_
 refine AL_nil (AW_seq ?_)
 refine AW_cond _ rfl (fun hc0 => ?_) (fun hc0 => ?_)
 ·replace hc0 := of_decide_eq_true hc0
  obtain ⟨x, hrx, hdx, hmx⟩ := drop_at (l := (bys s)) (i := i) (by omega)
  rw [hdx, blankL] at hSi
  refine AW_skip (AW_seq (AW_block (AW_seq (AW_region rfl ?_))))
  refine qm ?_
  refine qa ?_
  refine AL_keep [(6,_),(0,_),(2,_),(5,_),(3,_)] ⟨rfl,rfl,rfl,rfl,rfl,trivial⟩ ?_
  refine AL_nil (AW_seq (AW_region rfl ?_))
  refine qm ?_
  refine qm ?_
  refine qp (v := .lit (.int .u8 ((x : UInt8).toNat : Int))) (PO_index_str rfl un9 rfl rfl (by first | decide | omega) (bget hrx)) ?_
  refine qp (v := vb (letterF ((x : UInt8).toNat : Int))) (PO_call rfl rfl rfl (letter108_ _)) ?_
  refine qp (v := vb (!(letterF ((x : UInt8).toNat : Int)))) (PO_not (b := (letterF ((x : UInt8).toNat : Int))) rfl rfl) ?_
  refine qm ?_
  refine AL_jk 10 24 (vb ((!(letterF ((x : UInt8).toNat : Int))) && ((decide ((((i : Nat) : Int) : Int) = 0)) || (!(digitF ((x : UInt8).toNat : Int)))))) [(6,_),(0,_),(2,_),(5,_),(3,_),(9,_),(10,_),(11,_),(12,_),(13,_),(14,_)] ⟨rfl,rfl,rfl,rfl,rfl,rfl,rfl,rfl,rfl,rfl,rfl,trivial⟩ ?_ ?_
  ·refine AL_split 14 _ rfl (fun hg14 => ?_) (fun hg14 => ?_)
   ·refine gm ?_
    refine qg (v := vb (decide ((((i : Nat) : Int) : Int) = 0))) pI ?_
    refine gm ?_
    refine AL_jk 6 23 (vb ((decide ((((i : Nat) : Int) : Int) = 0)) || (!(digitF ((x : UInt8).toNat : Int))))) [(6,_),(0,_),(2,_),(5,_),(3,_),(9,_),(10,_),(11,_),(12,_),(13,_),(14,_),(15,_),(16,_),(17,_)] ⟨rfl,rfl,rfl,rfl,rfl,rfl,rfl,rfl,rfl,rfl,rfl,rfl,rfl,rfl,trivial⟩ ?_ ?_
    ·refine AL_split 17 _ rfl (fun hg17 => ?_) (fun hg17 => ?_)
     ·refine qz ?_
      refine qz ?_
      refine qz ?_
      refine qz ?_
      refine qz ?_
      refine gk ?_
      refine AL_say (k := 23) (vb ((decide ((((i : Nat) : Int) : Int) = 0)) || (!(digitF ((x : UInt8).toNat : Int))))) rfl (by rw [hg17]; rfl) ?_
      refine AL_say (k := 17) (vb (decide ((((i : Nat) : Int) : Int) = 0))) rfl (by rw [hg17]) ?_
      exact nl ⟨rfl,rfl,rfl,rfl,rfl,rfl,rfl,rfl,rfl,rfl,rfl,rfl,rfl,rfl,rfl,trivial⟩
     ·refine gm ?_
      refine gm ?_
      refine qg (v := .lit (.int .u8 ((x : UInt8).toNat : Int))) (PO_index_str rfl un9 rfl rfl (by first | decide | omega) (bget hrx)) ?_
      refine qg (v := vb (digitF ((x : UInt8).toNat : Int))) (PO_call rfl rfl rfl (digit109_ _)) ?_
      refine qg (v := vb (!(digitF ((x : UInt8).toNat : Int)))) (PO_not (b := (digitF ((x : UInt8).toNat : Int))) rfl rfl) ?_
      refine gk ?_
      refine AL_say (k := 23) (vb ((decide ((((i : Nat) : Int) : Int) = 0)) || (!(digitF ((x : UInt8).toNat : Int))))) rfl (by rw [hg17]; rfl) ?_
      refine AL_say (k := 17) (vb (decide ((((i : Nat) : Int) : Int) = 0))) rfl (by rw [hg17]) ?_
      exact nl ⟨rfl,rfl,rfl,rfl,rfl,rfl,rfl,rfl,rfl,rfl,rfl,rfl,rfl,rfl,rfl,trivial⟩
    ·refine qk ?_
     refine AL_say (k := 24) (vb ((!(letterF ((x : UInt8).toNat : Int))) && ((decide ((((i : Nat) : Int) : Int) = 0)) || (!(digitF ((x : UInt8).toNat : Int)))))) rfl (by rw [hg14]; rfl) ?_
     refine AL_say (k := 14) (vb (!(letterF ((x : UInt8).toNat : Int)))) rfl (by rw [hg14]) ?_
     exact nl ⟨rfl,rfl,rfl,rfl,rfl,rfl,rfl,rfl,rfl,rfl,rfl,rfl,trivial⟩
   ·refine qz ?_
    refine qz ?_
    refine qz ?_
    refine qy ?_
    refine qy ?_
    refine qy ?_
    refine qy ?_
    refine qy ?_
    refine qz ?_
    refine qk ?_
    refine AL_say (k := 24) (vb ((!(letterF ((x : UInt8).toNat : Int))) && ((decide ((((i : Nat) : Int) : Int) = 0)) || (!(digitF ((x : UInt8).toNat : Int)))))) rfl (by rw [hg14]; rfl) ?_
    refine AL_say (k := 14) (vb (!(letterF ((x : UInt8).toNat : Int)))) rfl (by rw [hg14]) ?_
    exact nl ⟨rfl,rfl,rfl,rfl,rfl,rfl,rfl,rfl,rfl,rfl,rfl,rfl,trivial⟩
  ·refine AL_keep [(24,_),(6,_),(0,_),(2,_),(5,_),(3,_)] ⟨rfl,rfl,rfl,rfl,rfl,rfl,trivial⟩ ?_
   refine AL_nil ?_
   refine AW_cond _ rfl (fun hc4 => ?_) (fun hc4 => ?_)
   ·rw [blankB, if_pos hc4] at hSi
    refine AW_seq (AW_region rfl ?_)
    refine qa (v := vb false) ?_
    refine AL_nil ?_
    refine AW_ret ?_
    exact ret_le2 (.inl rfl) rfl (by rw [blankF, hSi] <;> rfl) (.refl _)
   ·rw [blankB, if_neg (by rw [hc4]; simp)] at hSi
    refine AW_skip (AW_region rfl ?_)
    refine qp (v := vn (i + 1)) (PO_inc rfl rfl rfl (by first | omega | simp_all; omega)) ?_
    refine qm ?_
    refine AL_keep [(6,_),(0,_),(2,_),(5,_),(3,_)] ⟨rfl,rfl,rfl,rfl,rfl,trivial⟩ ?_
    refine AL_nil ?_
    exact ⟨i + 1, ⟨by omega, hSi⟩, by omega, ⟨rfl, ⟨rfl, rfl, rfl, rfl, trivial⟩, rfl, rfl, rfl⟩⟩
 ·replace hc0 := of_decide_eq_false hc0
  rw [drop_end (l := (bys s)) (i := i) (by omega), blankL] at hSi
  refine AW_exit ?_
  refine AW_seq (AW_region rfl ?_)
  refine qm ?_
  refine qp (v := vi (s.size : Int)) (PO_len_str rfl un9 rfl) ?_
  refine qp (v := vb (decide (((s.size : Int) : Int) ≥ 1))) pI ?_
  refine qm ?_
  refine AL_jk 4 33 (vb ((decide (((s.size : Int) : Int) ≥ 1)) && (decide (((s.size : Int) : Int) ≤ 64)))) [(6,_),(0,_),(2,_),(5,_),(26,_),(27,_),(28,_),(29,_)] ⟨rfl,rfl,rfl,rfl,rfl,rfl,rfl,rfl,trivial⟩ ?_ ?_
  ·refine AL_split 29 _ rfl (fun hg29 => ?_) (fun hg29 => ?_)
   ·refine gm ?_
    refine qg (v := vi (s.size : Int)) (PO_len_str rfl un9 rfl) ?_
    refine qg (v := vb (decide (((s.size : Int) : Int) ≤ 64))) pI ?_
    refine qk ?_
    refine AL_say (k := 33) (vb ((decide (((s.size : Int) : Int) ≥ 1)) && (decide (((s.size : Int) : Int) ≤ 64)))) rfl (by rw [hg29]; rfl) ?_
    refine AL_say (k := 29) (vb (decide (((s.size : Int) : Int) ≥ 1))) rfl (by rw [hg29]) ?_
    exact nl ⟨rfl,rfl,rfl,rfl,rfl,rfl,rfl,rfl,rfl,trivial⟩
   ·refine qz ?_
    refine qz ?_
    refine qz ?_
    refine qk ?_
    refine AL_say (k := 33) (vb ((decide (((s.size : Int) : Int) ≥ 1)) && (decide (((s.size : Int) : Int) ≤ 64)))) rfl (by rw [hg29]; rfl) ?_
    refine AL_say (k := 29) (vb (decide (((s.size : Int) : Int) ≥ 1))) rfl (by rw [hg29]) ?_
    exact nl ⟨rfl,rfl,rfl,rfl,rfl,rfl,rfl,rfl,rfl,trivial⟩
  ·refine qa ?_
   refine AL_keep [(6,_),(0,_),(2,_),(5,_)] ⟨rfl,rfl,rfl,rfl,trivial⟩ ?_
   refine AL_nil ?_
   refine AW_ret ?_
   exact ret_le2 (.inl rfl) rfl (by rw [blankF, hSi] <;> rfl) (.refl _)
theorem value_ (s : ByteArray) (hs : s.size ≤ 1048576) : PFn PR (.fn (.func 99) [] []) [.lit (.string s)] (.lit (.bool (valU s))) := by
 refine PFn_of Go.Proofs.Tryd.func99 rfl (by rfl) Go.Proofs.Tryd.ntmps99 rfl (by simp) fun h => ?_
 refine AW_seq (AW_region rfl ?_)
 refine qa (v := vb false) ?_
 refine AL_nil (AW_seq (AW_region rfl ?_))
 refine qm ?_
 refine qp (v := vi (s.size : Int)) (PO_len_str rfl un9 rfl) ?_
 refine qp (v := vb (decide (((s.size : Int) : Int) ≤ 4000))) pI ?_
 refine qm ?_
 refine AL_jk 3 9 (vb ((decide (((s.size : Int) : Int) ≤ 4000)) && (validU s))) [(0,_),(2,_),(3,_),(4,_),(5,_),(6,_)] ⟨rfl,rfl,rfl,rfl,rfl,rfl,trivial⟩ ?_ ?_
 ·refine AL_split 6 _ rfl (fun hg6 => ?_) (fun hg6 => ?_)
  ·refine gm ?_
   refine qg (v := vb (validU s)) (PO_call rfl rfl rfl (uvalid_ _ (by first | assumption | omega))) ?_
   refine qk ?_
   refine AL_say (k := 9) (vb ((decide (((s.size : Int) : Int) ≤ 4000)) && (validU s))) rfl (by rw [hg6]; rfl) ?_
   refine AL_say (k := 6) (vb (decide (((s.size : Int) : Int) ≤ 4000))) rfl (by rw [hg6]) ?_
   exact nl ⟨rfl,rfl,rfl,rfl,rfl,rfl,rfl,trivial⟩
  ·refine qz ?_
   refine qz ?_
   refine qk ?_
   refine AL_say (k := 9) (vb ((decide (((s.size : Int) : Int) ≤ 4000)) && (validU s))) rfl (by rw [hg6]; rfl) ?_
   refine AL_say (k := 6) (vb (decide (((s.size : Int) : Int) ≤ 4000))) rfl (by rw [hg6]) ?_
   exact nl ⟨rfl,rfl,rfl,rfl,rfl,rfl,rfl,trivial⟩
 ·refine qa ?_
  refine AL_keep [(0,_),(2,_)] ⟨rfl,rfl,trivial⟩ ?_
  refine AL_nil ?_
  refine AW_ret ?_
  exact ret_le2 (.inl rfl) rfl (by rfl) (.refl _)
def badR (r : Int) : Bool := decide (r ≤ 32) || (decide (r < 128) && decide (ixB ⟨#[60, 62, 34, 123, 125, 124, 94, 96, 92]⟩ (IntKind.wrap .u8 r) ≥ 0))
def iriUL : List (Nat × Int) → Bool
 | [] => true
 | p :: l => if badR p.2 = true then false else iriUL l
def iriU (s : ByteArray) : Bool := if ((decide ((s.size : Int) < 1) || decide ((s.size : Int) > 1000)) || !validU s) = true then false else iriUL (urunes s 0)
theorem iriUL_at {l : List (Nat × Int)} {i : Nat} {p : Nat × Int} (h : l[i]? = some p) : iriUL (l.drop i) = if badR p.2 = true then false else iriUL (l.drop (i + 1)) := by
 obtain ⟨hi, rfl⟩ := List.getElem?_eq_some_iff.1 h
 rw [List.drop_eq_getElem_cons hi]; rfl
theorem iri95_ (s : ByteArray) (hs : s.size ≤ 1048576) : PFn PR (.fn (.func 95) [] []) [.lit (.string s)] (.lit (.bool (iriU s))) := by
 refine PFn_ofG Go.Proofs.Tryd.func95 rfl (by rfl) Go.Proofs.Tryd.ntmps95 rfl (by simp) fun h => ?_
 refine AW_seq (AW_region rfl ?_)
 refine AL_alloc rfl rfl rfl rfl z4 fun b hb => ?_
 have hle0 : h.le (h.upd b (some (.row zs4))) := Heap.le_upd (.refl h) hb _
 have hrow0 : (h.upd b (some (.row zs4))) b = (some (.row [.lit (.bool false)])) := by rw [Heap.upd_same]
 refine AL_nil (AW_seq (AW_seq (AW_region rfl ?_)))
 refine qm ?_
 refine qp (v := vi (s.size : Int)) (PO_len_str rfl un9 rfl) ?_
 refine qp (v := vb (decide (((s.size : Int) : Int) < 1))) pI ?_
 refine qm ?_
 refine AL_jk 4 12 (vb ((decide (((s.size : Int) : Int) < 1)) || (decide (((s.size : Int) : Int) > 1000)))) [(0,_),(2,_),(5,_),(6,_),(7,_),(8,_)] ⟨rfl,rfl,rfl,rfl,rfl,rfl,trivial⟩ ?_ ?_
 ·refine AL_split 8 _ rfl (fun hg8 => ?_) (fun hg8 => ?_)
  ·refine qz ?_
   refine qz ?_
   refine qz ?_
   refine qk ?_
   refine AL_say (k := 12) (vb ((decide (((s.size : Int) : Int) < 1)) || (decide (((s.size : Int) : Int) > 1000)))) rfl (by rw [hg8]; rfl) ?_
   refine AL_say (k := 8) (vb (decide (((s.size : Int) : Int) < 1))) rfl (by rw [hg8]) ?_
   exact nl ⟨rfl,rfl,rfl,rfl,rfl,rfl,rfl,trivial⟩
  ·refine gm ?_
   refine qg (v := vi (s.size : Int)) (PO_len_str rfl un9 rfl) ?_
   refine qg (v := vb (decide (((s.size : Int) : Int) > 1000))) pI ?_
   refine qk ?_
   refine AL_say (k := 12) (vb ((decide (((s.size : Int) : Int) < 1)) || (decide (((s.size : Int) : Int) > 1000)))) rfl (by rw [hg8]; rfl) ?_
   refine AL_say (k := 8) (vb (decide (((s.size : Int) : Int) < 1))) rfl (by rw [hg8]) ?_
   exact nl ⟨rfl,rfl,rfl,rfl,rfl,rfl,rfl,trivial⟩
 ·refine qm ?_
  refine AL_jk 4 17 (vb (((decide (((s.size : Int) : Int) < 1)) || (decide (((s.size : Int) : Int) > 1000))) || (!(validU s)))) [(12,_),(0,_),(2,_),(5,_),(6,_),(7,_),(8,_),(13,_)] ⟨rfl,rfl,rfl,rfl,rfl,rfl,rfl,rfl,trivial⟩ ?_ ?_
  ·refine AL_split 13 _ rfl (fun hg13 => ?_) (fun hg13 => ?_)
   ·refine qz ?_
    refine qz ?_
    refine qz ?_
    refine qk ?_
    refine AL_say (k := 17) (vb (((decide (((s.size : Int) : Int) < 1)) || (decide (((s.size : Int) : Int) > 1000))) || (!(validU s)))) rfl (by rw [hg13]; rfl) ?_
    refine AL_say (k := 13) (vb ((decide (((s.size : Int) : Int) < 1)) || (decide (((s.size : Int) : Int) > 1000)))) rfl (by rw [hg13]) ?_
    exact nl ⟨rfl,rfl,rfl,rfl,rfl,rfl,rfl,rfl,rfl,trivial⟩
   ·refine gm ?_
    refine qg (v := vb (validU s)) (PO_call rfl rfl rfl (uvalid_ _ (by first | assumption | omega))) ?_
    refine qg (v := vb (!(validU s))) (PO_not (b := (validU s)) rfl rfl) ?_
    refine qk ?_
    refine AL_say (k := 17) (vb (((decide (((s.size : Int) : Int) < 1)) || (decide (((s.size : Int) : Int) > 1000))) || (!(validU s)))) rfl (by rw [hg13]; rfl) ?_
    refine AL_say (k := 13) (vb ((decide (((s.size : Int) : Int) < 1)) || (decide (((s.size : Int) : Int) > 1000)))) rfl (by rw [hg13]) ?_
    exact nl ⟨rfl,rfl,rfl,rfl,rfl,rfl,rfl,rfl,rfl,trivial⟩
  ·refine AL_keep [(17,_),(0,_),(2,_)] ⟨rfl,rfl,rfl,trivial⟩ ?_
   refine AL_nil ?_
   refine AW_cond _ rfl (fun hc1 => ?_) (fun hc1 => ?_)
   ·have hw : iriU s = false := by rw [iriU, if_pos hc1]
    refine AW_seq (AW_region rfl ?_)
    refine AL_store (b := b) (off := 0) (cs := [.lit (.bool false)]) (v := .lit (.bool false)) rfl rfl rfl ty4 rfl rfl hrow0 rfl rfl (by simp) ?_
    refine AL_nil ?_
    refine AW_ret ?_
    exact ret_G (.inl rfl) (Results.cell rfl ty4 rfl (Heap.upd_same _ _ _) rfl) (by rw [hw]) (Heap.le_upd hle0 hb _) (by simp)
   ·have hw : iriU s = iriUL (urunes s 0) := by rw [iriU, if_neg (by rw [hc1]; simp)]
    refine AW_skip (AW_seq (AW_seq (AW_region rfl ?_)))
    refine qm ?_
    refine qp (v := .fn (.func 112) [] [.ip [.lit (.string s)]]) (PO_call rfl rfl rfl (urunes_ _)) ?_
    refine AL_keep [(0,_),(2,_),(19,_)] ⟨rfl,rfl,rfl,trivial⟩ ?_
    refine AL_nil (AW_block ?_)
    refine AW_rangeF (xs := ((urunes s 0).map encR)) rfl Go.Proofs.Tryd.func112 rfl (by rfl) (riter_ s hs) (fun i hp => h.le hp ∧ hp b = (some (.row [.lit (.bool false)])) ∧ iriUL (urunes s 0) = iriUL ((urunes s 0).drop i)) (fun e i hp => e = .ret ∧ h.le hp ∧ hp b = (some (.row [.lit (.bool false)])) ∧ iriUL (urunes s 0) = false) (fun i tm => True ∧ Looks tm [(4, .lit (.int .i64 ((pOf s i).2))), (2, .ptr b 0)]) rfl (by intro x hx; simp only [List.mem_map] at hx; obtain ⟨p, -, rfl⟩ := hx; rfl) ⟨hle0, hrow0, rfl⟩ ?_ ?_ ?_ ?_ ?_ ?_
    ·intro l_ hl i h1 h2 hJ hst
     exact ⟨Steady.le (Heap.none_of hle0 hl) hJ.1 hst, hst.at hJ.2.1 rfl, hJ.2.2⟩
    ·intro l_ hl e i h1 h2 hJ hst
     exact ⟨hJ.1, Steady.le (Heap.none_of hle0 hl) hJ.2.1 hst, hst.at hJ.2.2.1 rfl, hJ.2.2.2⟩
    ·intro l_ i x hr hx hJ
     obtain ⟨hp, rfl, hlt⟩ := pOf_mem hx
     refine AW_keep [(20, .lit (.int .i64 (((pOf s i).1 : Nat) : Int))), (21, .lit (.int .i64 ((pOf s i).2))), (0, .lit (.string s)), (2, .ptr b 0), (19, .fn (.func 112) [] [.ip [.lit (.string s)]])] ⟨rfl, rfl, rfl, rfl, rfl, trivial⟩ ?_
     refine AW_region rfl ?_
     refine qa ?_
     refine AL_nil ?_
     exact ⟨rfl, rfl, rfl, .refl _, hJ, trivial, ⟨rfl, rfl, trivial⟩⟩
    ·intro l_ i x hr tm hx hJ hA
     obtain ⟨hA, hL⟩ := hA
     refine AW_ghost (Looks.sub hL).ghost ?_
     clear hL
     obtain ⟨hle, hrow, hS⟩ := hJ
     obtain ⟨hp, -, hlt⟩ := pOf_mem hx
     rw [iriUL_at hp, badR] at hS
     refine AW_block (AW_seq (AW_region rfl ?_))
     refine qm ?_
     refine qp (v := vb (decide (((pOf s i).2 : Int) ≤ 32))) pI ?_
     refine qm ?_
     refine AL_jk 9 33 (vb ((decide (((pOf s i).2 : Int) ≤ 32)) || ((decide (((pOf s i).2 : Int) < 128)) && (decide (((ixB ⟨#[60, 62, 34, 123, 125, 124, 94, 96, 92]⟩ (IntKind.wrap .u8 ((pOf s i).2))) : Int) ≥ 0))))) [(4,_),(2,_),(22,_),(23,_),(24,_)] ⟨rfl,rfl,rfl,rfl,rfl,trivial⟩ ?_ ?_
     ·refine AL_split 24 _ rfl (fun hg24 => ?_) (fun hg24 => ?_)
      ·refine qz ?_
       refine qz ?_
       refine qz ?_
       refine qy ?_
       refine qy ?_
       refine qy ?_
       refine qy ?_
       refine qz ?_
       refine qk ?_
       refine AL_say (k := 33) (vb ((decide (((pOf s i).2 : Int) ≤ 32)) || ((decide (((pOf s i).2 : Int) < 128)) && (decide (((ixB ⟨#[60, 62, 34, 123, 125, 124, 94, 96, 92]⟩ (IntKind.wrap .u8 ((pOf s i).2))) : Int) ≥ 0))))) rfl (by rw [hg24]; rfl) ?_
       refine AL_say (k := 24) (vb (decide (((pOf s i).2 : Int) ≤ 32))) rfl (by rw [hg24]) ?_
       exact nl ⟨rfl,rfl,rfl,rfl,rfl,rfl,trivial⟩
      ·refine gm ?_
       refine qg (v := vb (decide (((pOf s i).2 : Int) < 128))) pI ?_
       refine gm ?_
       refine AL_jk 5 32 (vb ((decide (((pOf s i).2 : Int) < 128)) && (decide (((ixB ⟨#[60, 62, 34, 123, 125, 124, 94, 96, 92]⟩ (IntKind.wrap .u8 ((pOf s i).2))) : Int) ≥ 0)))) [(4,_),(2,_),(22,_),(23,_),(24,_),(25,_),(26,_),(27,_)] ⟨rfl,rfl,rfl,rfl,rfl,rfl,rfl,rfl,trivial⟩ ?_ ?_
       ·refine AL_split 27 _ rfl (fun hg27 => ?_) (fun hg27 => ?_)
        ·refine gm ?_
         refine qg (v := .lit (.int .u8 (IntKind.wrap .u8 ((pOf s i).2)))) (PO_convInt rfl un3 un5 rfl) ?_
         refine qg (v := vi (ixB ⟨#[60, 62, 34, 123, 125, 124, 94, 96, 92]⟩ (IntKind.wrap .u8 ((pOf s i).2)))) (PO_call rfl rfl rfl (ib107_ _ _)) ?_
         refine qg (v := vb (decide (((ixB ⟨#[60, 62, 34, 123, 125, 124, 94, 96, 92]⟩ (IntKind.wrap .u8 ((pOf s i).2))) : Int) ≥ 0))) pI ?_
         refine gk ?_
         refine AL_say (k := 32) (vb ((decide (((pOf s i).2 : Int) < 128)) && (decide (((ixB ⟨#[60, 62, 34, 123, 125, 124, 94, 96, 92]⟩ (IntKind.wrap .u8 ((pOf s i).2))) : Int) ≥ 0)))) rfl (by rw [hg27]; rfl) ?_
         refine AL_say (k := 27) (vb (decide (((pOf s i).2 : Int) < 128))) rfl (by rw [hg27]) ?_
         exact nl ⟨rfl,rfl,rfl,rfl,rfl,rfl,rfl,rfl,rfl,trivial⟩
        ·refine qz ?_
         refine qz ?_
         refine qz ?_
         refine qz ?_
         refine gk ?_
         refine AL_say (k := 32) (vb ((decide (((pOf s i).2 : Int) < 128)) && (decide (((ixB ⟨#[60, 62, 34, 123, 125, 124, 94, 96, 92]⟩ (IntKind.wrap .u8 ((pOf s i).2))) : Int) ≥ 0)))) rfl (by rw [hg27]; rfl) ?_
         refine AL_say (k := 27) (vb (decide (((pOf s i).2 : Int) < 128))) rfl (by rw [hg27]) ?_
         exact nl ⟨rfl,rfl,rfl,rfl,rfl,rfl,rfl,rfl,rfl,trivial⟩
       ·refine qk ?_
        refine AL_say (k := 33) (vb ((decide (((pOf s i).2 : Int) ≤ 32)) || ((decide (((pOf s i).2 : Int) < 128)) && (decide (((ixB ⟨#[60, 62, 34, 123, 125, 124, 94, 96, 92]⟩ (IntKind.wrap .u8 ((pOf s i).2))) : Int) ≥ 0))))) rfl (by rw [hg24]; rfl) ?_
        refine AL_say (k := 24) (vb (decide (((pOf s i).2 : Int) ≤ 32))) rfl (by rw [hg24]) ?_
        exact nl ⟨rfl,rfl,rfl,rfl,rfl,rfl,trivial⟩
     ·refine AL_keep [(33,_),(4,_),(2,_)] ⟨rfl,rfl,rfl,trivial⟩ ?_
      refine AL_nil ?_
      refine AW_cond _ rfl (fun hc5 => ?_) (fun hc5 => ?_)
      ·rw [if_pos hc5] at hS
       refine AW_seq (AW_region rfl ?_)
       refine AL_store (b := b) (off := 0) (cs := [.lit (.bool false)]) (v := .lit (.bool false)) rfl rfl rfl ty4 rfl rfl hrow rfl rfl (by simp) ?_
       refine AL_nil ?_
       refine AW_ret ?_
       exact ⟨⟨rfl, Heap.le_upd hle hb _, (Heap.upd_same _ _ _).trans rfl, hS⟩, rfl⟩
      ·rw [if_neg (by rw [hc5]; simp)] at hS
       refine AW_skip ?_
       exact ⟨⟨hle, hrow, hS⟩, rfl⟩
    ·intro hd r_ hr0 hmark hJ
     obtain ⟨hle, hrow, hS⟩ := hJ
     rw [List.length_map, List.drop_of_length_le (Nat.le_refl _), iriUL] at hS
     have hrn : h r_ = none := Heap.none_of hle0 hr0
     refine AW_seq (AW_region rfl ?_)
     refine AL_store (b := b) (off := 0) (cs := [.lit (.bool false)]) (v := .lit (.bool true)) rfl rfl rfl ty4 rfl rfl hrow rfl rfl (by simp) ?_
     refine AL_nil ?_
     refine AW_ret ?_
     exact ret_G (.inl rfl) (Results.cell rfl ty4 rfl (Heap.upd_same _ _ _) rfl) (by rw [hw, hS]) (Heap.le_upd hle hb _) (by simpa using hrn)
    ·intro e i hd r_ hr0 hmark hc hJx
     obtain ⟨rfl, hle, hrow, hS⟩ := hJx
     have hrn : h r_ = none := Heap.none_of hle0 hr0
     exact ret_G (.inl rfl) (Results.cell rfl ty4 rfl hrow rfl) (by rw [hw, hS]) hle (by simpa using hrn)
end Go.AM.Tryd
end
section
set_option maxRecDepth 100000
set_option linter.unusedVariables false
set_option linter.unusedSimpArgs false
namespace Go.AM.Tryd
open Go Go.AM Go.AM.D
def eqL (l m : List Lt) : Bool := if (l.length : Int) ≠ (m.length : Int) then false else sameL l m
theorem eq50_ (l m : List Lt) (hl : l.length ≤ 1048576) : PFn PR (.fn (.func 50) [] []) [.sl .any 21 (l.map eLit), .sl .any 21 (m.map eLit)] (.lit (.bool (eqL l m))) := by
 refine PFn_of Go.Proofs.Tryd.func50 rfl (by rfl) Go.Proofs.Tryd.ntmps50 rfl (by simp) fun h => ?_
 refine AW_seq (AW_region rfl ?_)
 refine qa (v := vb false) ?_
 refine AL_nil (AW_seq (AW_seq (AW_region rfl ?_)))
 refine qm ?_
 refine qp (v := vi (l.length : Int)) (PO_lenM rfl un44 rfl) ?_
 refine qm ?_
 refine qp (v := vi (m.length : Int)) (PO_lenM rfl un44 rfl) ?_
 refine qp (v := vb (decide (((l.length : Int) : Int) ≠ (m.length : Int)))) pI ?_
 refine AL_keep [(0,_),(1,_),(4,_),(10,_)] ⟨rfl,rfl,rfl,rfl,trivial⟩ ?_
 refine AL_nil ?_
 refine AW_cond _ rfl (fun hc1 => ?_) (fun hc1 => ?_)
 ·replace hc1 := of_decide_eq_true hc1
  have hw : eqL l m = false := by rw [eqL, if_pos hc1]
  refine AW_seq (AW_region rfl ?_)
  refine qa (v := vb false) ?_
  refine AL_nil ?_
  refine AW_ret ?_
  exact ret_le2 (.inl rfl) rfl (by rw [hw]) (.refl _)
 ·replace hc1 := of_decide_eq_false hc1
  have hw : eqL l m = sameL l m := by rw [eqL, if_neg hc1]
  have hlen : l.length = m.length := by omega
  refine AW_skip (AW_seq (AW_seq (AW_region rfl ?_)))
  refine qm ?_
  refine qp (v := vi (l.length : Int)) (PO_lenM rfl un44 rfl) ?_
  refine qm (v := vi 0) ?_
  refine AL_keep [(0,_),(1,_),(4,_),(12,_),(13,_)] ⟨rfl,rfl,rfl,rfl,rfl,trivial⟩ ?_
  refine AL_nil (AW_block ?_)
  refine AW_iter (fun (i : Nat) => [(13, .lit (.int .i64 ((i : Nat) : Int))), (0, .sl .any 21 (l.map eLit)), (1, .sl .any 21 (m.map eLit)), (4, .lit (.bool false)), (12, .lit (.int .i64 (l.length : Int)))]) (fun (i : Nat) => h) (fun (i : Nat) => i ≤ l.length ∧ sameL l m = sameL (l.drop i) (m.drop i)) (fun (i : Nat) => l.length - i) (0) ⟨rfl, rfl, rfl, rfl, rfl, trivial⟩ rfl (⟨by omega, rfl⟩) ?_
  rintro i ⟨hIi, hSi⟩
  refine AW_seq (AW_region rfl ?_)
  refine qp (v := vb (decide ((((i : Nat) : Int) : Int) < (l.length : Int)))) pI ?_
  refine AL_nil (AW_seq ?_)
  refine AW_cond _ rfl (fun hc0 => ?_) (fun hc0 => ?_)
  ·replace hc0 := of_decide_eq_true hc0
   obtain ⟨x, hrx, hdx, hmx⟩ := drop_at (l := l) (i := i) (by omega)
   obtain ⟨y, hry, hdy, hmy⟩ := drop_at (l := m) (i := i) (by omega)
   rw [hdx, hdy, sameL] at hSi
   refine AW_skip (AW_seq (AW_block (AW_seq (AW_region rfl ?_))))
   refine qm ?_
   refine qa ?_
   refine AL_keep [(13,_),(0,_),(1,_),(4,_),(12,_),(5,_)] ⟨rfl,rfl,rfl,rfl,rfl,rfl,trivial⟩ ?_
   refine AL_nil (AW_seq ?_)
   refine AW_draw 9 [.sl .any 21 (l.map eLit), .lit (.int .i64 ((i : Nat) : Int)), .ip (eLit x), .agg (eLit x), .sl .any 21 (m.map eLit), .lit (.int .i64 ((i : Nat) : Int)), .ip (eLit y), .agg (eLit y), .lit (.bool (decide (x ≠ y)))] [(13, .lit (.int .i64 ((i : Nat) : Int))), (0, .sl .any 21 (l.map eLit)), (1, .sl .any 21 (m.map eLit)), (4, .lit (.bool false)), (12, .lit (.int .i64 (l.length : Int))), (5, .lit (.int .i64 ((i : Nat) : Int))), (24, .lit (.bool (decide (x ≠ y))))] rfl hmixed (by kernel_rfl) rfl (by kernel_rfl) ⟨
    ⟨[(0, .sl .any 21 (l.map eLit))], ⟨.inr ⟨by kernel_rfl, rfl⟩, trivial⟩, .inl ⟨rfl, PO_move rfl rfl⟩⟩,
    ⟨[(5, .lit (.int .i64 ((i : Nat) : Int)))], ⟨.inr ⟨by kernel_rfl, rfl⟩, trivial⟩, .inl ⟨rfl, PO_move rfl rfl⟩⟩,
    ⟨[(16, .sl .any 21 (l.map eLit)), (17, .lit (.int .i64 ((i : Nat) : Int)))], ⟨.inl ⟨0, by kernel_rfl, rfl, rfl⟩, .inl ⟨1, by kernel_rfl, rfl, rfl⟩, trivial⟩, .inl ⟨rfl, PO_indexAddr rfl un44 ty68 rfl rfl (by first | decide | omega) (mget hrx)⟩⟩,
    ⟨[(18, .ip (eLit x))], ⟨.inl ⟨2, by kernel_rfl, rfl, rfl⟩, trivial⟩, .inl ⟨rfl, PO_load rfl ty68 rfl rfl⟩⟩,
    ⟨[(1, .sl .any 21 (m.map eLit))], ⟨.inr ⟨by kernel_rfl, rfl⟩, trivial⟩, .inl ⟨rfl, PO_move rfl rfl⟩⟩,
    ⟨[(5, .lit (.int .i64 ((i : Nat) : Int)))], ⟨.inr ⟨by kernel_rfl, rfl⟩, trivial⟩, .inl ⟨rfl, PO_move rfl rfl⟩⟩,
    ⟨[(20, .sl .any 21 (m.map eLit)), (21, .lit (.int .i64 ((i : Nat) : Int)))], ⟨.inl ⟨4, by kernel_rfl, rfl, rfl⟩, .inl ⟨5, by kernel_rfl, rfl, rfl⟩, trivial⟩, .inl ⟨rfl, PO_indexAddr rfl un44 ty68 rfl rfl (by first | decide | omega) (mget hry)⟩⟩,
    ⟨[(22, .ip (eLit y))], ⟨.inl ⟨6, by kernel_rfl, rfl, rfl⟩, trivial⟩, .inl ⟨rfl, PO_load rfl ty68 rfl rfl⟩⟩,
    ⟨[(19, .agg (eLit x)), (23, .agg (eLit y))], ⟨.inl ⟨3, by kernel_rfl, rfl, rfl⟩, .inl ⟨7, by kernel_rfl, rfl, rfl⟩, trivial⟩, .inl ⟨rfl, PO_eqv (PO_aggNe rfl eqm68 eg68 rfl rfl rfl rfl rfl rfl) (eLit_ne _ _)⟩⟩,
    trivial⟩ ⟨.inr ⟨by kernel_rfl, rfl⟩, .inr ⟨by kernel_rfl, rfl⟩, .inr ⟨by kernel_rfl, rfl⟩, .inr ⟨by kernel_rfl, rfl⟩, .inr ⟨by kernel_rfl, rfl⟩, .inr ⟨by kernel_rfl, rfl⟩, .inl ⟨8, by decide, rfl, rfl⟩, trivial⟩ ?_
   refine AL_nil ?_
   refine AW_cond _ rfl (fun hc6 => ?_) (fun hc6 => ?_)
   ·replace hc6 := of_decide_eq_true hc6
    rw [if_pos hc6] at hSi
    refine AW_seq (AW_region rfl ?_)
    refine qa (v := vb false) ?_
    refine AL_nil ?_
    refine AW_ret ?_
    exact ret_le2 (.inl rfl) rfl (by rw [hw, hSi]) (.refl _)
   ·replace hc6 := of_decide_eq_false hc6
    rw [if_neg hc6] at hSi
    refine AW_skip (AW_region rfl ?_)
    refine qp (v := vn (i + 1)) (PO_inc rfl rfl rfl (by first | omega | simp_all; omega)) ?_
    refine qm ?_
    refine AL_keep [(13,_),(0,_),(1,_),(4,_),(12,_),(5,_)] ⟨rfl,rfl,rfl,rfl,rfl,rfl,trivial⟩ ?_
    refine AL_nil ?_
    exact ⟨i + 1, ⟨by omega, hSi⟩, by omega, ⟨rfl, ⟨rfl, rfl, rfl, rfl, rfl, trivial⟩, rfl, rfl, rfl⟩⟩
  ·replace hc0 := of_decide_eq_false hc0
   rw [drop_end (l := l) (i := i) (by omega), sameL] at hSi
   refine AW_exit ?_
   refine AW_seq (AW_region rfl ?_)
   refine qa (v := vb true) ?_
   refine AL_nil ?_
   refine AW_ret ?_
   exact ret_le2 (.inl rfl) rfl (by rw [hw, hSi]) (.refl _)
def sameP (a b : Rule) : Bool := decide (a.head = b.head) && eqL a.body b.body
theorem same38_ (a b : Rule) (ha : okR a) : PFn PR (.fn (.func 38) [] []) [.agg (eRule a), .agg (eRule b)] (.lit (.bool (sameP a b))) := by
 have hal := ha.2.1
 refine PFn_of Go.Proofs.Tryd.func38 rfl (by rfl) Go.Proofs.Tryd.ntmps38 rfl (by simp) fun h => ?_
 refine AW_seq (AW_region rfl ?_)
 refine qp (v := .ip (eRule a)) (PO_boxA rfl rfl) ?_
 refine qp (v := .ip (eRule b)) (PO_boxA rfl rfl) ?_
 refine qa (v := vb false) ?_
 refine AL_nil (AW_seq (AW_region rfl ?_))
 refine qp (v := .ip (List.drop 0 (eRule a))) (PO_fieldAddr rfl f46_0 rfl) ?_
 refine qp (v := .agg (ePat a.head)) (PO_load rfl ty43 rfl rfl) ?_
 refine qp (v := .ip (List.drop 0 (eRule b))) (PO_fieldAddr rfl f46_0 rfl) ?_
 refine qp (v := .agg (ePat b.head)) (PO_load rfl ty43 rfl rfl) ?_
 refine qp (v := vb (decide (a.head = b.head))) (PO_eqv (PO_aggEq rfl eqm43 eg43 rfl rfl rfl rfl rfl rfl) (ePat_eq _ _)) ?_
 refine qm ?_
 refine AL_jk 6 16 (vb ((decide (a.head = b.head)) && (eqL a.body b.body))) [(0,_),(1,_),(2,_),(3,_),(4,_),(5,_),(6,_),(7,_),(8,_),(9,_),(10,_)] ⟨rfl,rfl,rfl,rfl,rfl,rfl,rfl,rfl,rfl,rfl,rfl,trivial⟩ ?_ ?_
 ·refine AL_split 10 _ rfl (fun hg10 => ?_) (fun hg10 => ?_)
  ·refine qg (v := .ip (List.drop 12 (eRule a))) (PO_fieldAddr rfl f46_1 rfl) ?_
   refine qg (v := vL a.body) (PO_load rfl ty44 rfl rfl) ?_
   refine qg (v := .ip (List.drop 12 (eRule b))) (PO_fieldAddr rfl f46_1 rfl) ?_
   refine qg (v := vL b.body) (PO_load rfl ty44 rfl rfl) ?_
   refine qg (v := vb (eqL a.body b.body)) (PO_call rfl rfl rfl (eq50_ _ _ (by first | assumption | omega))) ?_
   refine qk ?_
   refine AL_say (k := 16) (vb ((decide (a.head = b.head)) && (eqL a.body b.body))) rfl (by rw [hg10]; rfl) ?_
   refine AL_say (k := 10) (vb (decide (a.head = b.head))) rfl (by rw [hg10]) ?_
   exact nl ⟨rfl,rfl,rfl,rfl,rfl,rfl,rfl,rfl,rfl,rfl,rfl,rfl,trivial⟩
  ·refine qz ?_
   refine qz ?_
   refine qz ?_
   refine qz ?_
   refine qz ?_
   refine qk ?_
   refine AL_say (k := 16) (vb ((decide (a.head = b.head)) && (eqL a.body b.body))) rfl (by rw [hg10]; rfl) ?_
   refine AL_say (k := 10) (vb (decide (a.head = b.head))) rfl (by rw [hg10]) ?_
   exact nl ⟨rfl,rfl,rfl,rfl,rfl,rfl,rfl,rfl,rfl,rfl,rfl,rfl,trivial⟩
 ·refine qa ?_
  refine AL_keep [(0,_),(1,_),(2,_),(3,_),(4,_)] ⟨rfl,rfl,rfl,rfl,rfl,trivial⟩ ?_
  refine AL_nil ?_
  refine AW_ret ?_
  exact ret_le2 (.inl rfl) rfl (by rfl) (.refl _)
theorem prog37_ (r o : Rule) (ho : okR o) : PFn PR (.fn (.func 37) [] [.ip (eRule r)]) [.agg (eRule o)] (.lit (.bool (sameP o r))) := by
 refine PFn_of Go.Proofs.Tryd.func37 rfl (by rfl) Go.Proofs.Tryd.ntmps37 rfl (by simp) fun h => ?_
 refine AW_seq (AW_region rfl ?_)
 refine qp (v := .ip (eRule o)) (PO_boxA rfl rfl) ?_
 refine qa (v := vb false) ?_
 refine AL_nil (AW_seq (AW_region rfl ?_))
 refine qp (v := .agg (eRule o)) (PO_load rfl ty46 rfl rfl) ?_
 refine qp (v := .agg (eRule r)) (PO_load rfl ty46 rfl rfl) ?_
 refine qp (v := vb (sameP o r)) (PO_call rfl rfl rfl (same38_ _ _ (by assumption))) ?_
 refine qa ?_
 refine AL_keep [(0,_),(1,_),(2,_),(3,_)] ⟨rfl,rfl,rfl,rfl,trivial⟩ ?_
 refine AL_nil ?_
 refine AW_ret ?_
 exact ret_le2 (.inl rfl) rfl (by rfl) (.refl _)
def idxF {α : Type} (p : α → Bool) : List α → Int → Int
 | [], _ => -1
 | x :: l, i => if p x = true then i else idxF p l (i + 1)
theorem idxF_any {α : Type} (p : α → Bool) : ∀ (l : List α) (i : Int), 0 ≤ i → decide (idxF p l i ≥ 0) = l.any p := by
 intro l
 induction l with
 | nil => intro i h; simp [idxF]
 | cons x l ih =>
  intro i h
  rw [idxF, List.any_cons]
  cases hp : p x with
  | true => simp [h]
  | false => simpa using ih (i + 1) (by omega)
theorem idx49_ (f : AV) (p : Rule → Bool) (l : List Rule) (hl : l.length ≤ 1048576) (hf : ∀ x ∈ l, PFn PR f [.agg (eRule x)] (.lit (.bool (p x)))) : PFn PR (.fn (.func 49) [] []) [.sl .any 13 (l.map eRule), f] (.lit (.int .i64 (idxF p l 0))) := by
 refine PFn_of Go.Proofs.Tryd.func49 rfl (by rfl) Go.Proofs.Tryd.ntmps49 rfl (by simp) fun h => ?_
 refine AW_seq (AW_region rfl ?_)
 refine qa (v := vi 0) ?_
 refine AL_nil (AW_seq (AW_seq (AW_region rfl ?_)))
 refine qm ?_
 refine qp (v := vi (l.length : Int)) (PO_lenM rfl un22 rfl) ?_
 refine qm (v := vi 0) ?_
 refine AL_keep [(0,_),(1,_),(4,_),(7,_),(8,_)] ⟨rfl,rfl,rfl,rfl,rfl,trivial⟩ ?_
 refine AL_nil (AW_block ?_)
 refine AW_iter (fun (i : Nat) => [(8, .lit (.int .i64 ((i : Nat) : Int))), (0, .sl .any 13 (l.map eRule)), (1, f), (4, .lit (.int .i64 0)), (7, .lit (.int .i64 (l.length : Int)))]) (fun (i : Nat) => h) (fun (i : Nat) => i ≤ l.length ∧ idxF p l 0 = idxF p (l.drop i) i) (fun (i : Nat) => l.length - i) (0) ⟨rfl, rfl, rfl, rfl, rfl, trivial⟩ rfl (⟨by omega, rfl⟩) ?_
 rintro i ⟨hIi, hSi⟩
 refine AW_seq (AW_region rfl ?_)
 refine qp (v := vb (decide ((((i : Nat) : Int) : Int) < (l.length : Int)))) pI ?_
 refine AL_nil (AW_seq ?_)
 refine AW_cond _ rfl (fun hc0 => ?_) (fun hc0 => ?_)
 ·replace hc0 := of_decide_eq_true hc0
  obtain ⟨x, hrx, hdx, hmx⟩ := drop_at (l := l) (i := i) (by omega)
  rw [hdx, idxF] at hSi
  refine AW_skip (AW_seq (AW_block (AW_seq (AW_region rfl ?_))))
  refine qm ?_
  refine qa ?_
  refine AL_keep [(8,_),(0,_),(1,_),(4,_),(7,_),(5,_)] ⟨rfl,rfl,rfl,rfl,rfl,rfl,trivial⟩ ?_
  refine AL_nil (AW_seq (AW_region rfl ?_))
  refine qm (v := f) ?_
  refine qm ?_
  refine qm ?_
  refine qp (v := .ip (eRule x)) (PO_indexAddr rfl un22 ty46 rfl rfl (by first | decide | omega) (mget hrx)) ?_
  refine qp (v := .agg (eRule x)) (PO_load rfl ty46 rfl rfl) ?_
  refine qp (v := vb (p x)) (PO_call rfl rfl rfl (hf x hmx)) ?_
  refine AL_keep [(8,_),(0,_),(1,_),(4,_),(7,_),(5,_),(16,_)] ⟨rfl,rfl,rfl,rfl,rfl,rfl,rfl,trivial⟩ ?_
  refine AL_nil ?_
  refine AW_cond _ rfl (fun hc4 => ?_) (fun hc4 => ?_)
  ·rw [if_pos hc4] at hSi
   refine AW_seq (AW_region rfl ?_)
   refine qm ?_
   refine qa ?_
   refine AL_keep [(8,_),(0,_),(1,_),(4,_),(7,_),(5,_)] ⟨rfl,rfl,rfl,rfl,rfl,rfl,trivial⟩ ?_
   refine AL_nil ?_
   refine AW_ret ?_
   exact ret_le2 (.inl rfl) rfl (by rw [hSi]) (.refl _)
  ·rw [if_neg (by rw [hc4]; simp)] at hSi
   refine AW_skip (AW_region rfl ?_)
   refine qp (v := vn (i + 1)) (PO_inc rfl rfl rfl (by first | omega | simp_all; omega)) ?_
   refine qm ?_
   refine AL_keep [(8,_),(0,_),(1,_),(4,_),(7,_),(5,_)] ⟨rfl,rfl,rfl,rfl,rfl,rfl,trivial⟩ ?_
   refine AL_nil ?_
   exact ⟨i + 1, ⟨by omega, hSi⟩, by omega, ⟨rfl, ⟨rfl, rfl, rfl, rfl, rfl, trivial⟩, rfl, rfl, rfl⟩⟩
 ·replace hc0 := of_decide_eq_false hc0
  rw [drop_end (l := l) (i := i) (by omega), idxF] at hSi
  refine AW_exit ?_
  refine AW_seq (AW_region rfl ?_)
  refine qa (v := vi (-1)) ?_
  refine AL_nil ?_
  refine AW_ret ?_
  exact ret_le2 (.inl rfl) rfl (by rw [hSi]) (.refl _)
theorem has36_ (f : AV) (p : Rule → Bool) (l : List Rule) (hl : l.length ≤ 1048576) (hf : ∀ x ∈ l, PFn PR f [.agg (eRule x)] (.lit (.bool (p x)))) : PFn PR (.fn (.func 36) [] []) [.sl .any 13 (l.map eRule), f] (.lit (.bool (l.any p))) := by
 refine PFn_of Go.Proofs.Tryd.func36 rfl (by rfl) Go.Proofs.Tryd.ntmps36 rfl (by simp) fun h => ?_
 refine AW_seq (AW_region rfl ?_)
 refine qa (v := vb false) ?_
 refine AL_nil (AW_seq (AW_region rfl ?_))
 refine qm ?_
 refine qm (v := f) ?_
 refine qp (v := vi (idxF p l 0)) (PO_call rfl rfl rfl (idx49_ _ _ _ hl hf)) ?_
 refine qp (v := vb (l.any p)) (PO_eqv (PO_int rfl rfl rfl rfl trivial) (idxF_any p l 0 (by omega))) ?_
 refine qa ?_
 refine AL_keep [(0,_),(1,_),(4,_)] ⟨rfl,rfl,rfl,trivial⟩ ?_
 refine AL_nil ?_
 refine AW_ret ?_
 exact ret_le2 (.inl rfl) rfl (by rfl) (.refl _)
theorem idx80_ (f : AV) (p : Lt → Bool) (l : List Lt) (hl : l.length ≤ 1048576) (hf : ∀ x ∈ l, PFn PR f [.agg (eLit x)] (.lit (.bool (p x)))) : PFn PR (.fn (.func 80) [] []) [.sl .any 21 (l.map eLit), f] (.lit (.int .i64 (idxF p l 0))) := by
 refine PFn_of Go.Proofs.Tryd.func80 rfl (by rfl) Go.Proofs.Tryd.ntmps80 rfl (by simp) fun h => ?_
 refine AW_seq (AW_region rfl ?_)
 refine qa (v := vi 0) ?_
 refine AL_nil (AW_seq (AW_seq (AW_region rfl ?_)))
 refine qm ?_
 refine qp (v := vi (l.length : Int)) (PO_lenM rfl un44 rfl) ?_
 refine qm (v := vi 0) ?_
 refine AL_keep [(0,_),(1,_),(4,_),(7,_),(8,_)] ⟨rfl,rfl,rfl,rfl,rfl,trivial⟩ ?_
 refine AL_nil (AW_block ?_)
 refine AW_iter (fun (i : Nat) => [(8, .lit (.int .i64 ((i : Nat) : Int))), (0, .sl .any 21 (l.map eLit)), (1, f), (4, .lit (.int .i64 0)), (7, .lit (.int .i64 (l.length : Int)))]) (fun (i : Nat) => h) (fun (i : Nat) => i ≤ l.length ∧ idxF p l 0 = idxF p (l.drop i) i) (fun (i : Nat) => l.length - i) (0) ⟨rfl, rfl, rfl, rfl, rfl, trivial⟩ rfl (⟨by omega, rfl⟩) ?_
 rintro i ⟨hIi, hSi⟩
 refine AW_seq (AW_region rfl ?_)
 refine qp (v := vb (decide ((((i : Nat) : Int) : Int) < (l.length : Int)))) pI ?_
 refine AL_nil (AW_seq ?_)
 refine AW_cond _ rfl (fun hc0 => ?_) (fun hc0 => ?_)
 ·replace hc0 := of_decide_eq_true hc0
  obtain ⟨x, hrx, hdx, hmx⟩ := drop_at (l := l) (i := i) (by omega)
  rw [hdx, idxF] at hSi
  refine AW_skip (AW_seq (AW_block (AW_seq (AW_region rfl ?_))))
  refine qm ?_
  refine qa ?_
  refine AL_keep [(8,_),(0,_),(1,_),(4,_),(7,_),(5,_)] ⟨rfl,rfl,rfl,rfl,rfl,rfl,trivial⟩ ?_
  refine AL_nil (AW_seq (AW_region rfl ?_))
  refine qm (v := f) ?_
  refine qm ?_
  refine qm ?_
  refine qp (v := .ip (eLit x)) (PO_indexAddr rfl un44 ty68 rfl rfl (by first | decide | omega) (mget hrx)) ?_
  refine qp (v := .agg (eLit x)) (PO_load rfl ty68 rfl rfl) ?_
  refine qp (v := vb (p x)) (PO_call rfl rfl rfl (hf x hmx)) ?_
  refine AL_keep [(8,_),(0,_),(1,_),(4,_),(7,_),(5,_),(16,_)] ⟨rfl,rfl,rfl,rfl,rfl,rfl,rfl,trivial⟩ ?_
  refine AL_nil ?_
  refine AW_cond _ rfl (fun hc4 => ?_) (fun hc4 => ?_)
  ·rw [if_pos hc4] at hSi
   refine AW_seq (AW_region rfl ?_)
   refine qm ?_
   refine qa ?_
   refine AL_keep [(8,_),(0,_),(1,_),(4,_),(7,_),(5,_)] ⟨rfl,rfl,rfl,rfl,rfl,rfl,trivial⟩ ?_
   refine AL_nil ?_
   refine AW_ret ?_
   exact ret_le2 (.inl rfl) rfl (by rw [hSi]) (.refl _)
  ·rw [if_neg (by rw [hc4]; simp)] at hSi
   refine AW_skip (AW_region rfl ?_)
   refine qp (v := vn (i + 1)) (PO_inc rfl rfl rfl (by first | omega | simp_all; omega)) ?_
   refine qm ?_
   refine AL_keep [(8,_),(0,_),(1,_),(4,_),(7,_),(5,_)] ⟨rfl,rfl,rfl,rfl,rfl,rfl,trivial⟩ ?_
   refine AL_nil ?_
   exact ⟨i + 1, ⟨by omega, hSi⟩, by omega, ⟨rfl, ⟨rfl, rfl, rfl, rfl, rfl, trivial⟩, rfl, rfl, rfl⟩⟩
 ·replace hc0 := of_decide_eq_false hc0
  rw [drop_end (l := l) (i := i) (by omega), idxF] at hSi
  refine AW_exit ?_
  refine AW_seq (AW_region rfl ?_)
  refine qa (v := vi (-1)) ?_
  refine AL_nil ?_
  refine AW_ret ?_
  exact ret_le2 (.inl rfl) rfl (by rw [hSi]) (.refl _)
theorem has66_ (f : AV) (p : Lt → Bool) (l : List Lt) (hl : l.length ≤ 1048576) (hf : ∀ x ∈ l, PFn PR f [.agg (eLit x)] (.lit (.bool (p x)))) : PFn PR (.fn (.func 66) [] []) [.sl .any 21 (l.map eLit), f] (.lit (.bool (l.any p))) := by
 refine PFn_of Go.Proofs.Tryd.func66 rfl (by rfl) Go.Proofs.Tryd.ntmps66 rfl (by simp) fun h => ?_
 refine AW_seq (AW_region rfl ?_)
 refine qa (v := vb false) ?_
 refine AL_nil (AW_seq (AW_region rfl ?_))
 refine qm ?_
 refine qm (v := f) ?_
 refine qp (v := vi (idxF p l 0)) (PO_call rfl rfl rfl (idx80_ _ _ _ hl hf)) ?_
 refine qp (v := vb (l.any p)) (PO_eqv (PO_int rfl rfl rfl rfl trivial) (idxF_any p l 0 (by omega))) ?_
 refine qa ?_
 refine AL_keep [(0,_),(1,_),(4,_)] ⟨rfl,rfl,rfl,trivial⟩ ?_
 refine AL_nil ?_
 refine AW_ret ?_
 exact ret_le2 (.inl rfl) rfl (by rfl) (.refl _)
end Go.AM.Tryd
end
section
set_option maxRecDepth 100000
set_option linter.unusedVariables false
set_option linter.unusedSimpArgs false
namespace Go.AM.Tryd
open Go Go.AM Go.AM.D
def k1F (t : Term) : Bool := iriU t.text && decide (t.extra = ⟨#[]⟩)
def k2F (t : Term) : Bool := blankF t.text && decide (t.extra = ⟨#[]⟩)
def k3F (t : Term) : Bool := valU t.text && decide (t.extra = ⟨#[]⟩)
def k5F (t : Term) : Bool := (valU t.text && iriU t.extra) && decide (t.extra ≠ xsd)
theorem kind94_ (t : Term) (ht : okT t) : PFn PR (.fn (.func 94) [] []) [.agg (eTerm t)] (.lit (.bool (k1F t))) := by
 have h1 := ht.1
 have h2 := ht.2
 refine PFn_of Go.Proofs.Tryd.func94 rfl (by rfl) Go.Proofs.Tryd.ntmps94 rfl (by simp) fun h => ?_
 refine AW_seq (AW_region rfl ?_)
 refine qp (v := .ip (eTerm t)) (PO_boxA rfl rfl) ?_
 refine qa (v := vb false) ?_
 refine AL_nil (AW_seq (AW_region rfl ?_))
 refine qp (v := .ip (List.drop 1 (eTerm t))) (PO_fieldAddr rfl f25_1 rfl) ?_
 refine qp (v := vs t.text) (PO_load rfl ty9 rfl rfl) ?_
 refine qp (v := vb (iriU t.text)) (PO_call rfl rfl rfl (iri95_ _ (by first | assumption | omega))) ?_
 refine qm ?_
 refine AL_jk 4 10 (vb ((iriU t.text) && (decide (t.extra = ⟨#[]⟩)))) [(0,_),(1,_),(2,_),(3,_),(4,_),(5,_),(6,_)] ⟨rfl,rfl,rfl,rfl,rfl,rfl,rfl,trivial⟩ ?_ ?_
 ·refine AL_split 6 _ rfl (fun hg6 => ?_) (fun hg6 => ?_)
  ·refine qg (v := .ip (List.drop 2 (eTerm t))) (PO_fieldAddr rfl f25_2 rfl) ?_
   refine qg (v := vs t.extra) (PO_load rfl ty9 rfl rfl) ?_
   refine qg (v := vb (decide (t.extra = ⟨#[]⟩))) (PO_str rfl rfl rfl rfl) ?_
   refine qk ?_
   refine AL_say (k := 10) (vb ((iriU t.text) && (decide (t.extra = ⟨#[]⟩)))) rfl (by rw [hg6]; rfl) ?_
   refine AL_say (k := 6) (vb (iriU t.text)) rfl (by rw [hg6]) ?_
   exact nl ⟨rfl,rfl,rfl,rfl,rfl,rfl,rfl,rfl,trivial⟩
  ·refine qz ?_
   refine qz ?_
   refine qz ?_
   refine qk ?_
   refine AL_say (k := 10) (vb ((iriU t.text) && (decide (t.extra = ⟨#[]⟩)))) rfl (by rw [hg6]; rfl) ?_
   refine AL_say (k := 6) (vb (iriU t.text)) rfl (by rw [hg6]) ?_
   exact nl ⟨rfl,rfl,rfl,rfl,rfl,rfl,rfl,rfl,trivial⟩
 ·refine qa ?_
  refine AL_keep [(0,_),(1,_),(2,_)] ⟨rfl,rfl,rfl,trivial⟩ ?_
  refine AL_nil ?_
  refine AW_ret ?_
  exact ret_le2 (.inl rfl) rfl (by rfl) (.refl _)
theorem kind96_ (t : Term) (ht : okT t) : PFn PR (.fn (.func 96) [] []) [.agg (eTerm t)] (.lit (.bool (k2F t))) := by
 have h1 := ht.1
 have h2 := ht.2
 refine PFn_of Go.Proofs.Tryd.func96 rfl (by rfl) Go.Proofs.Tryd.ntmps96 rfl (by simp) fun h => ?_
 refine AW_seq (AW_region rfl ?_)
 refine qp (v := .ip (eTerm t)) (PO_boxA rfl rfl) ?_
 refine qa (v := vb false) ?_
 refine AL_nil (AW_seq (AW_region rfl ?_))
 refine qp (v := .ip (List.drop 1 (eTerm t))) (PO_fieldAddr rfl f25_1 rfl) ?_
 refine qp (v := vs t.text) (PO_load rfl ty9 rfl rfl) ?_
 refine qp (v := vb (blankF t.text)) (PO_call rfl rfl rfl (blank_ _ (by first | assumption | omega))) ?_
 refine qm ?_
 refine AL_jk 4 10 (vb ((blankF t.text) && (decide (t.extra = ⟨#[]⟩)))) [(0,_),(1,_),(2,_),(3,_),(4,_),(5,_),(6,_)] ⟨rfl,rfl,rfl,rfl,rfl,rfl,rfl,trivial⟩ ?_ ?_
 ·refine AL_split 6 _ rfl (fun hg6 => ?_) (fun hg6 => ?_)
  ·refine qg (v := .ip (List.drop 2 (eTerm t))) (PO_fieldAddr rfl f25_2 rfl) ?_
   refine qg (v := vs t.extra) (PO_load rfl ty9 rfl rfl) ?_
   refine qg (v := vb (decide (t.extra = ⟨#[]⟩))) (PO_str rfl rfl rfl rfl) ?_
   refine qk ?_
   refine AL_say (k := 10) (vb ((blankF t.text) && (decide (t.extra = ⟨#[]⟩)))) rfl (by rw [hg6]; rfl) ?_
   refine AL_say (k := 6) (vb (blankF t.text)) rfl (by rw [hg6]) ?_
   exact nl ⟨rfl,rfl,rfl,rfl,rfl,rfl,rfl,rfl,trivial⟩
  ·refine qz ?_
   refine qz ?_
   refine qz ?_
   refine qk ?_
   refine AL_say (k := 10) (vb ((blankF t.text) && (decide (t.extra = ⟨#[]⟩)))) rfl (by rw [hg6]; rfl) ?_
   refine AL_say (k := 6) (vb (blankF t.text)) rfl (by rw [hg6]) ?_
   exact nl ⟨rfl,rfl,rfl,rfl,rfl,rfl,rfl,rfl,trivial⟩
 ·refine qa ?_
  refine AL_keep [(0,_),(1,_),(2,_)] ⟨rfl,rfl,rfl,trivial⟩ ?_
  refine AL_nil ?_
  refine AW_ret ?_
  exact ret_le2 (.inl rfl) rfl (by rfl) (.refl _)
theorem kind98_ (t : Term) (ht : okT t) : PFn PR (.fn (.func 98) [] []) [.agg (eTerm t)] (.lit (.bool (k3F t))) := by
 have h1 := ht.1
 have h2 := ht.2
 refine PFn_of Go.Proofs.Tryd.func98 rfl (by rfl) Go.Proofs.Tryd.ntmps98 rfl (by simp) fun h => ?_
 refine AW_seq (AW_region rfl ?_)
 refine qp (v := .ip (eTerm t)) (PO_boxA rfl rfl) ?_
 refine qa (v := vb false) ?_
 refine AL_nil (AW_seq (AW_region rfl ?_))
 refine qp (v := .ip (List.drop 1 (eTerm t))) (PO_fieldAddr rfl f25_1 rfl) ?_
 refine qp (v := vs t.text) (PO_load rfl ty9 rfl rfl) ?_
 refine qp (v := vb (valU t.text)) (PO_call rfl rfl rfl (value_ _ (by first | assumption | omega))) ?_
 refine qm ?_
 refine AL_jk 4 10 (vb ((valU t.text) && (decide (t.extra = ⟨#[]⟩)))) [(0,_),(1,_),(2,_),(3,_),(4,_),(5,_),(6,_)] ⟨rfl,rfl,rfl,rfl,rfl,rfl,rfl,trivial⟩ ?_ ?_
 ·refine AL_split 6 _ rfl (fun hg6 => ?_) (fun hg6 => ?_)
  ·refine qg (v := .ip (List.drop 2 (eTerm t))) (PO_fieldAddr rfl f25_2 rfl) ?_
   refine qg (v := vs t.extra) (PO_load rfl ty9 rfl rfl) ?_
   refine qg (v := vb (decide (t.extra = ⟨#[]⟩))) (PO_str rfl rfl rfl rfl) ?_
   refine qk ?_
   refine AL_say (k := 10) (vb ((valU t.text) && (decide (t.extra = ⟨#[]⟩)))) rfl (by rw [hg6]; rfl) ?_
   refine AL_say (k := 6) (vb (valU t.text)) rfl (by rw [hg6]) ?_
   exact nl ⟨rfl,rfl,rfl,rfl,rfl,rfl,rfl,rfl,trivial⟩
  ·refine qz ?_
   refine qz ?_
   refine qz ?_
   refine qk ?_
   refine AL_say (k := 10) (vb ((valU t.text) && (decide (t.extra = ⟨#[]⟩)))) rfl (by rw [hg6]; rfl) ?_
   refine AL_say (k := 6) (vb (valU t.text)) rfl (by rw [hg6]) ?_
   exact nl ⟨rfl,rfl,rfl,rfl,rfl,rfl,rfl,rfl,trivial⟩
 ·refine qa ?_
  refine AL_keep [(0,_),(1,_),(2,_)] ⟨rfl,rfl,rfl,trivial⟩ ?_
  refine AL_nil ?_
  refine AW_ret ?_
  exact ret_le2 (.inl rfl) rfl (by rfl) (.refl _)
theorem kind102_ (t : Term) (ht : okT t) : PFn PR (.fn (.func 102) [] []) [.agg (eTerm t)] (.lit (.bool (k5F t))) := by
 have h1 := ht.1
 have h2 := ht.2
 refine PFn_of Go.Proofs.Tryd.func102 rfl (by rfl) Go.Proofs.Tryd.ntmps102 rfl (by simp) fun h => ?_
 refine AW_seq (AW_region rfl ?_)
 refine qp (v := .ip (eTerm t)) (PO_boxA rfl rfl) ?_
 refine qa (v := vb false) ?_
 refine AL_nil (AW_seq (AW_region rfl ?_))
 refine qp (v := .ip (List.drop 1 (eTerm t))) (PO_fieldAddr rfl f25_1 rfl) ?_
 refine qp (v := vs t.text) (PO_load rfl ty9 rfl rfl) ?_
 refine qp (v := vb (valU t.text)) (PO_call rfl rfl rfl (value_ _ (by first | assumption | omega))) ?_
 refine qm ?_
 refine AL_jk 4 10 (vb ((valU t.text) && (iriU t.extra))) [(0,_),(1,_),(2,_),(3,_),(4,_),(5,_),(6,_)] ⟨rfl,rfl,rfl,rfl,rfl,rfl,rfl,trivial⟩ ?_ ?_
 ·refine AL_split 6 _ rfl (fun hg6 => ?_) (fun hg6 => ?_)
  ·refine qg (v := .ip (List.drop 2 (eTerm t))) (PO_fieldAddr rfl f25_2 rfl) ?_
   refine qg (v := vs t.extra) (PO_load rfl ty9 rfl rfl) ?_
   refine qg (v := vb (iriU t.extra)) (PO_call rfl rfl rfl (iri95_ _ (by first | assumption | omega))) ?_
   refine qk ?_
   refine AL_say (k := 10) (vb ((valU t.text) && (iriU t.extra))) rfl (by rw [hg6]; rfl) ?_
   refine AL_say (k := 6) (vb (valU t.text)) rfl (by rw [hg6]) ?_
   exact nl ⟨rfl,rfl,rfl,rfl,rfl,rfl,rfl,rfl,trivial⟩
  ·refine qz ?_
   refine qz ?_
   refine qz ?_
   refine qk ?_
   refine AL_say (k := 10) (vb ((valU t.text) && (iriU t.extra))) rfl (by rw [hg6]; rfl) ?_
   refine AL_say (k := 6) (vb (valU t.text)) rfl (by rw [hg6]) ?_
   exact nl ⟨rfl,rfl,rfl,rfl,rfl,rfl,rfl,rfl,trivial⟩
 ·refine qm ?_
  refine AL_jk 4 15 (vb (((valU t.text) && (iriU t.extra)) && (decide (t.extra ≠ ⟨#[104, 116, 116, 112, 58, 47, 47, 119, 119, 119, 46, 119, 51, 46, 111, 114, 103, 47, 50, 48, 48, 49, 47, 88, 77, 76, 83, 99, 104, 101, 109, 97, 35, 115, 116, 114, 105, 110, 103]⟩)))) [(10,_),(0,_),(1,_),(2,_),(3,_),(4,_),(5,_),(6,_),(11,_)] ⟨rfl,rfl,rfl,rfl,rfl,rfl,rfl,rfl,rfl,trivial⟩ ?_ ?_
  ·refine AL_split 11 _ rfl (fun hg11 => ?_) (fun hg11 => ?_)
   ·refine qg (v := .ip (List.drop 2 (eTerm t))) (PO_fieldAddr rfl f25_2 rfl) ?_
    refine qg (v := vs t.extra) (PO_load rfl ty9 rfl rfl) ?_
    refine qg (v := vb (decide (t.extra ≠ ⟨#[104, 116, 116, 112, 58, 47, 47, 119, 119, 119, 46, 119, 51, 46, 111, 114, 103, 47, 50, 48, 48, 49, 47, 88, 77, 76, 83, 99, 104, 101, 109, 97, 35, 115, 116, 114, 105, 110, 103]⟩))) (PO_str rfl rfl rfl rfl) ?_
    refine qk ?_
    refine AL_say (k := 15) (vb (((valU t.text) && (iriU t.extra)) && (decide (t.extra ≠ ⟨#[104, 116, 116, 112, 58, 47, 47, 119, 119, 119, 46, 119, 51, 46, 111, 114, 103, 47, 50, 48, 48, 49, 47, 88, 77, 76, 83, 99, 104, 101, 109, 97, 35, 115, 116, 114, 105, 110, 103]⟩)))) rfl (by rw [hg11]; rfl) ?_
    refine AL_say (k := 11) (vb ((valU t.text) && (iriU t.extra))) rfl (by rw [hg11]) ?_
    exact nl ⟨rfl,rfl,rfl,rfl,rfl,rfl,rfl,rfl,rfl,rfl,trivial⟩
   ·refine qz ?_
    refine qz ?_
    refine qz ?_
    refine qk ?_
    refine AL_say (k := 15) (vb (((valU t.text) && (iriU t.extra)) && (decide (t.extra ≠ ⟨#[104, 116, 116, 112, 58, 47, 47, 119, 119, 119, 46, 119, 51, 46, 111, 114, 103, 47, 50, 48, 48, 49, 47, 88, 77, 76, 83, 99, 104, 101, 109, 97, 35, 115, 116, 114, 105, 110, 103]⟩)))) rfl (by rw [hg11]; rfl) ?_
    refine AL_say (k := 11) (vb ((valU t.text) && (iriU t.extra))) rfl (by rw [hg11]) ?_
    exact nl ⟨rfl,rfl,rfl,rfl,rfl,rfl,rfl,rfl,rfl,rfl,trivial⟩
  ·refine qa ?_
   refine AL_keep [(0,_),(1,_),(2,_)] ⟨rfl,rfl,rfl,trivial⟩ ?_
   refine AL_nil ?_
   refine AW_ret ?_
   exact ret_le2 (.inl rfl) rfl (by rfl) (.refl _)
def kindsEs : List (List Value × AV) := [([.int .i64 1], .fn (.func 94) [] []), ([.int .i64 2], .fn (.func 96) [] []), ([.int .i64 3], .fn (.func 98) [] []), ([.int .i64 4], .fn (.func 100) [] []), ([.int .i64 5], .fn (.func 102) [] [])]
theorem kinds92_  : PFn PR (.fn (.func 92) [] []) [] (.im ks23 false kindsEs) := by
 refine PFn_of Go.Proofs.Tryd.func92 rfl (by rfl) Go.Proofs.Tryd.ntmps92 rfl (by simp) fun h => ?_
 refine AW_seq (AW_region rfl ?_)
 refine qa ?_
 refine AL_nil (AW_seq (AW_region rfl ?_))
 refine AL_makeMap ks23 false rfl rfl rfl rfl fun b hb => ?_
 refine AL_mapUpd (es := []) (v := .fn (.func 94) [] []) rfl rfl (.inr rfl) un151 key23 rfl rfl rfl rfl rfl ?_
 refine AL_mapUpd (es := [([.int .i64 1], .fn (.func 94) [] [])]) (v := .fn (.func 96) [] []) rfl rfl (.inr rfl) un151 key23 rfl rfl rfl rfl rfl ?_
 refine AL_mapUpd (es := [([.int .i64 1], .fn (.func 94) [] []), ([.int .i64 2], .fn (.func 96) [] [])]) (v := .fn (.func 98) [] []) rfl rfl (.inr rfl) un151 key23 rfl rfl rfl rfl rfl ?_
 refine AL_mapUpd (es := [([.int .i64 1], .fn (.func 94) [] []), ([.int .i64 2], .fn (.func 96) [] []), ([.int .i64 3], .fn (.func 98) [] [])]) (v := .fn (.func 100) [] []) rfl rfl (.inr rfl) un151 key23 rfl rfl rfl rfl rfl ?_
 refine AL_mapUpd (es := [([.int .i64 1], .fn (.func 94) [] []), ([.int .i64 2], .fn (.func 96) [] []), ([.int .i64 3], .fn (.func 98) [] []), ([.int .i64 4], .fn (.func 100) [] [])]) (v := .fn (.func 102) [] []) rfl rfl (.inr rfl) un151 key23 rfl rfl rfl rfl rfl ?_
 refine AL_mpf1 (k := 1) (es := kindsEs) rfl hb ?_
 refine qm ?_
 refine qa ?_
 refine AL_keep [(0,_)] ⟨rfl,trivial⟩ ?_
 refine AL_nil ?_
 refine AW_ret ?_
 exact ret_le2 (.inl rfl) rfl (by rfl) (.refl _)
end Go.AM.Tryd
end
section
set_option maxRecDepth 100000
set_option linter.unusedVariables false
set_option linter.unusedSimpArgs false
namespace Go.AM.Tryd
open Go Go.AM Go.AM.D
abbrev dash : ByteArray := ⟨#[45]⟩
def cntB (s : ByteArray) : Nat := Lib.countByte s.data.toList 45
theorem cnt124_ (s : ByteArray) : PFn PR (.fn (.func 124) [] []) [.lit (.string s), .lit (.int .u8 (((45 : UInt8)).toNat : Int))] (.lit (.int .i64 ((cntB s : Nat) : Int))) :=
 PFn_extern (us := [.string s, .int .u8 (((45 : UInt8)).toNat : Int)]) Go.Proofs.Tryd.func124 (by rfl) rfl (by kernel_rfl) (by rfl) (fun w => Lib.run_countString s _ w) rfl
theorem dash0 : dash[(0 : Int).toNat]? = some 45 := rfl
theorem dash_size : (dash.size : Int) = 1 := rfl
theorem cntB_le (s : ByteArray) : cntB s ≤ s.size := by
 have : cntB s ≤ s.data.toList.length := List.count_le_length
 simpa using this
theorem count_ (s : ByteArray) (hs : s.size ≤ 1048576) : PFn PR (.fn (.func 120) [] []) [.lit (.string s), .lit (.string dash)] (.lit (.int .i64 ((cntB s : Nat) : Int))) := by
 refine PFn_of Go.Proofs.Tryd.func120 rfl (by rfl) Go.Proofs.Tryd.ntmps120 rfl (by simp) fun h => ?_
 refine AW_seq (AW_region rfl ?_)
 refine qa (v := vi 0) ?_
 refine AL_nil (AW_seq (AW_seq (AW_region rfl ?_)))
 refine qm ?_
 refine qp (v := vi (dash.size : Int)) (PO_len_str rfl un9 rfl) ?_
 refine qp (v := vb (decide (((dash.size : Int) : Int) = 0))) pI ?_
 refine AL_keep [(0,_),(1,_),(4,_),(9,_)] ⟨rfl,rfl,rfl,rfl,trivial⟩ ?_
 refine AL_nil ?_
 refine AW_cond _ rfl (fun hc1 => ?_) (fun hc1 => ?_)
 ·replace hc1 := of_decide_eq_true hc1
  exact absurd hc1 (by decide)
 ·replace hc1 := of_decide_eq_false hc1
  refine AW_skip (AW_seq (AW_seq (AW_region rfl ?_)))
  refine qm ?_
  refine qp (v := vi (dash.size : Int)) (PO_len_str rfl un9 rfl) ?_
  refine qp (v := vb (decide (((dash.size : Int) : Int) = 1))) pI ?_
  refine AL_keep [(0,_),(1,_),(4,_),(15,_)] ⟨rfl,rfl,rfl,rfl,trivial⟩ ?_
  refine AL_nil ?_
  refine AW_cond _ rfl (fun hc3 => ?_) (fun hc3 => ?_)
  ·replace hc3 := of_decide_eq_true hc3
   refine AW_seq (AW_region rfl ?_)
   refine qm ?_
   refine qm ?_
   refine qp (v := .lit (.int .u8 ((45 : UInt8).toNat : Int))) (PO_index_str rfl un9 rfl rfl (by first | decide | omega) dash0) ?_
   refine qp (v := vn (cntB s)) (PO_call rfl rfl rfl (cnt124_ _)) ?_
   refine qa ?_
   refine AL_keep [(0,_),(1,_),(4,_)] ⟨rfl,rfl,rfl,trivial⟩ ?_
   refine AL_nil ?_
   refine AW_ret ?_
   exact ret_le2 (.inl rfl) rfl (by rfl) (.refl _)
  ·replace hc3 := of_decide_eq_false hc3
   exact absurd (by decide) hc3
def ixD (s : ByteArray) : Int := ixB s (((45 : UInt8)).toNat : Int)
theorem sindex_ (s : ByteArray) (hs : s.size ≤ 1048576) : PFn PR (.fn (.func 125) [] []) [.lit (.string s), .lit (.string dash)] (.lit (.int .i64 (ixD s))) := by
 refine PFn_of Go.Proofs.Tryd.func125 rfl (by rfl) Go.Proofs.Tryd.ntmps125 rfl (by simp) fun h => ?_
 refine AW_seq (AW_region rfl ?_)
 refine qa (v := vi 0) ?_
 refine AL_nil (AW_seq (AW_region rfl ?_))
 refine qm ?_
 refine qp (v := vi (dash.size : Int)) (PO_len_str rfl un9 rfl) ?_
 refine qa ?_
 refine AL_keep [(0,_),(1,_),(4,_),(5,_)] ⟨rfl,rfl,rfl,rfl,trivial⟩ ?_
 refine AL_nil (AW_seq (AW_block (AW_seq (AW_region rfl ?_))))
 refine qm ?_
 refine qp (v := vb (decide (((dash.size : Int) : Int) = 0))) pI ?_
 refine qm ?_
 refine AL_jk 4 23 (vb ((decide (((dash.size : Int) : Int) = 0)) || (decide (dash = s)))) [(0,_),(1,_),(4,_),(5,_),(17,_),(18,_),(19,_)] ⟨rfl,rfl,rfl,rfl,rfl,rfl,rfl,trivial⟩ ?_ ?_
 ·refine AL_split 19 _ rfl (fun hg19 => ?_) (fun hg19 => ?_)
  ·refine qz ?_
   refine qz ?_
   refine qz ?_
   refine qk ?_
   refine AL_say (k := 23) (vb ((decide (((dash.size : Int) : Int) = 0)) || (decide (dash = s)))) rfl (by rw [hg19]; rfl) ?_
   refine AL_say (k := 19) (vb (decide (((dash.size : Int) : Int) = 0))) rfl (by rw [hg19]) ?_
   exact nl ⟨rfl,rfl,rfl,rfl,rfl,rfl,rfl,rfl,trivial⟩
  ·refine gm ?_
   refine gm ?_
   refine qg (v := vb (decide (dash = s))) (PO_str rfl rfl rfl rfl) ?_
   refine qk ?_
   refine AL_say (k := 23) (vb ((decide (((dash.size : Int) : Int) = 0)) || (decide (dash = s)))) rfl (by rw [hg19]; rfl) ?_
   refine AL_say (k := 19) (vb (decide (((dash.size : Int) : Int) = 0))) rfl (by rw [hg19]) ?_
   exact nl ⟨rfl,rfl,rfl,rfl,rfl,rfl,rfl,rfl,trivial⟩
 ·refine qa ?_
  refine AL_keep [(0,_),(1,_),(4,_),(5,_),(16,_)] ⟨rfl,rfl,rfl,rfl,rfl,trivial⟩ ?_
  refine AL_nil ?_
  refine AW_cond _ rfl (fun hc2 => ?_) (fun hc2 => ?_)
  ·have he : dash = s := by
    rcases (Bool.or_eq_true _ _).mp hc2 with e | e
    ·exact absurd (of_decide_eq_true e) (by decide)
    ·exact of_decide_eq_true e
   refine AW_seq (AW_region rfl ?_)
   refine qa (v := vi 0) ?_
   refine AL_nil ?_
   refine AW_ret ?_
   exact ret_le2 (.inl rfl) rfl (by rw [← he]; rfl) (.refl _)
  ·refine AW_seq (AW_region rfl ?_)
   refine qm ?_
   refine qp (v := vb (decide (((dash.size : Int) : Int) = 1))) pI ?_
   refine qa ?_
   refine AL_keep [(0,_),(1,_),(4,_),(5,_),(24,_)] ⟨rfl,rfl,rfl,rfl,rfl,trivial⟩ ?_
   refine AL_nil ?_
   refine AW_cond _ rfl (fun hc4 => ?_) (fun hc4 => ?_)
   ·replace hc4 := of_decide_eq_true hc4
    refine AW_seq (AW_region rfl ?_)
    refine qm ?_
    refine qm ?_
    refine qp (v := .lit (.int .u8 ((45 : UInt8).toNat : Int))) (PO_index_str rfl un9 rfl rfl (by first | decide | omega) dash0) ?_
    refine qp (v := vi (ixB s ((45 : UInt8).toNat : Int))) (PO_call rfl rfl rfl (ib114_ _ _)) ?_
    refine qa ?_
    refine AL_keep [(0,_),(1,_),(4,_),(5,_)] ⟨rfl,rfl,rfl,rfl,trivial⟩ ?_
    refine AL_nil ?_
    refine AW_ret ?_
    exact ret_le2 (.inl rfl) rfl (by rfl) (.refl _)
   ·replace hc4 := of_decide_eq_false hc4
    exact absurd (by decide) hc4
theorem index_ (s : ByteArray) (hs : s.size ≤ 1048576) : PFn PR (.fn (.func 121) [] []) [.lit (.string s), .lit (.string dash)] (.lit (.int .i64 (ixD s))) := by
 refine PFn_of Go.Proofs.Tryd.func121 rfl (by rfl) Go.Proofs.Tryd.ntmps121 rfl (by simp) fun h => ?_
 refine AW_seq (AW_region rfl ?_)
 refine qa (v := vi 0) ?_
 refine AL_nil (AW_seq (AW_region rfl ?_))
 refine qm ?_
 refine qm ?_
 refine qp (v := vi (ixD s)) (PO_call rfl rfl rfl (sindex_ _ (by first | assumption | omega))) ?_
 refine qa ?_
 refine AL_keep [(0,_),(1,_),(4,_)] ⟨rfl,rfl,rfl,trivial⟩ ?_
 refine AL_nil ?_
 refine AW_ret ?_
 exact ret_le2 (.inl rfl) rfl (by rfl) (.refl _)
theorem ixD_lt (s : ByteArray) : -1 ≤ ixD s ∧ (0 ≤ ixD s → ixD s < (s.size : Int)) := by
 have key : ∀ (l : List UInt8) (c : UInt8), 0 ≤ Lib.indexByte l c → Lib.indexByte l c < (l.length : Int) := by
  intro l c
  induction l with
  | nil => intro h; simp [Lib.indexByte] at h
  | cons x l ih =>
   intro h
   unfold Lib.indexByte at h ⊢
   split at h
   ·rename_i e; rw [if_pos e]; simp only [List.length_cons]; omega
   ·rename_i e
    rw [if_neg e]
    split at h
    ·simp at h
    ·rename_i e2
     rw [if_neg e2]
     have e3 : Lib.indexByte l c ≠ -1 := by simpa using e2
     have := Lib.indexByte_ge l c
     have := ih (by omega)
     simp only [List.length_cons]; omega
 refine ⟨Lib.indexByte_ge _ _, fun h => ?_⟩
 have := key _ _ h
 have e : s.data.toList.length = s.size := Array.length_toList
 rw [e] at this
 exact this
def piecesG : Nat → ByteArray → List ByteArray
 | 0, s => [s]
 | k + 1, s => if ixD s < 0 then [s] else s.extract 0 (ixD s).toNat :: piecesG k (s.extract ((ixD s).toNat + 1) s.size)
def splitD (s : ByteArray) : List ByteArray := piecesG (min (cntB s + 1) (s.size + 1) - 1) s
def nP (s : ByteArray) : Nat := min (cntB s + 1) (s.size + 1)
theorem nP_le (s : ByteArray) : 1 ≤ nP s ∧ nP s ≤ s.size + 1 := by unfold nP; omega
def rowC (acc : List ByteArray) (k : Nat) : List AV := (acc.map fun x => AV.lit (.string x)) ++ List.replicate k (.lit (.string ⟨#[]⟩))
theorem rowC_len (acc : List ByteArray) (k : Nat) : (rowC acc k).length = acc.length + k := by simp [rowC]
theorem rowC_set {acc : List ByteArray} {k : Nat} (x : ByteArray) : setCells (rowC acc (k + 1)) (0 + acc.length * 1) (acells (.lit (.string x))) = rowC (acc ++ [x]) k := by
 have h1 : (acc.map fun x => AV.lit (.string x)).length = acc.length := by simp
 simp only [rowC, setCells, acells, Nat.zero_add, Nat.mul_one, List.length_singleton, List.map_append, List.map_cons, List.map_nil]
 rw [List.take_append_of_le_length (by omega), List.take_of_length_le (by omega), List.drop_append, List.drop_of_length_le (by omega), h1, List.replicate_succ]
 simp
theorem rowC_set2 {acc : List ByteArray} {k k2 i : Nat} (hA : acc.length = i) (hk : k = k2 + 1) (x : ByteArray) : some (AObj.row (setCells (rowC acc k) (0 + i * 1) (acells (.lit (.string x))))) = some (AObj.row (rowC (acc ++ [x]) k2)) := by
 subst hA; subst hk; rw [rowC_set]
theorem rowC_zero (k : Nat) : azeros zs9 k = rowC [] k := by
 induction k with
 | zero => rfl
 | succ k ih =>
  have : azeros zs9 (k + 1) = zs9 ++ azeros zs9 k := by simp [azeros, List.replicate_succ]
  rw [this, ih]; rfl
theorem rowC_get {acc : List ByteArray} {k : Nat} : ∀ i e j a, (acc.map eStr)[i]? = some e → e[j]? = some a → (rowC acc k)[0 + 0 * 1 + i * 1 + j]? = some a := by
 intro i e j a h1 h2
 rw [List.getElem?_map] at h1
 cases hx : acc[i]? with
 | none => rw [hx] at h1; cases h1
 | some x =>
  rw [hx] at h1
  simp only [Option.map_some, Option.some.injEq] at h1
  subst h1
  have hi := (List.getElem?_eq_some_iff.1 hx).1
  cases j with
  | zero =>
   simp only [eStr, List.getElem?_cons_zero, Option.some.injEq] at h2
   subst h2
   simp only [rowC, Nat.zero_mul, Nat.zero_add, Nat.mul_one, Nat.add_zero]
   rw [List.getElem?_append_left (by simpa using hi), List.getElem?_map, hx]; rfl
  | succ j => simp [eStr] at h2
theorem gensplit_ (s : ByteArray) (hs : s.size ≤ 1048576) : PFn PR (.fn (.func 115) [] []) [.lit (.string s), .lit (.string dash), .lit (.int .i64 0), .lit (.int .i64 (-1))] (.sl .any 1 ((splitD s).map eStr)) := by
 have hnP := nP_le s
 have hcn := cntB_le s
 refine PFn_of Go.Proofs.Tryd.func115 rfl (by rfl) Go.Proofs.Tryd.ntmps115 rfl (by simp) fun h => ?_
 refine AW_seq (AW_region rfl ?_)
 refine qp (v := .sl .nil 1 []) (PO_nil_assign rfl) ?_
 refine AL_nil (AW_seq (AW_seq (AW_region rfl ?_)))
 refine qm (v := vi (-1)) ?_
 refine qp (v := vb (decide (((-1) : Int) = 0))) pI ?_
 refine AL_keep [(0,_),(1,_),(2,_),(3,_),(8,_),(13,_)] ⟨rfl,rfl,rfl,rfl,rfl,rfl,trivial⟩ ?_
 refine AL_nil ?_
 refine AW_cond _ rfl (fun hc1 => ?_) (fun hc1 => ?_)
 ·replace hc1 := of_decide_eq_true hc1
  exact absurd hc1 (by decide)
 ·replace hc1 := of_decide_eq_false hc1
  refine AW_skip (AW_seq (AW_seq (AW_region rfl ?_)))
  refine qm ?_
  refine qp (v := vb (decide (dash = ⟨#[]⟩))) (PO_str rfl rfl rfl rfl) ?_
  refine AL_keep [(0,_),(1,_),(2,_),(3,_),(8,_),(15,_)] ⟨rfl,rfl,rfl,rfl,rfl,rfl,trivial⟩ ?_
  refine AL_nil ?_
  refine AW_cond _ rfl (fun hc3 => ?_) (fun hc3 => ?_)
  ·replace hc3 := of_decide_eq_true hc3
   exact absurd hc3 (by decide)
  ·replace hc3 := of_decide_eq_false hc3
   refine AW_skip (AW_seq (AW_seq (AW_region rfl ?_)))
   refine qm (v := vi (-1)) ?_
   refine qp (v := vb (decide (((-1) : Int) < 0))) pI ?_
   refine AL_keep [(0,_),(1,_),(2,_),(3,_),(8,_),(20,_)] ⟨rfl,rfl,rfl,rfl,rfl,rfl,trivial⟩ ?_
   refine AL_nil ?_
   refine AW_cond _ rfl (fun hc5 => ?_) (fun hc5 => ?_)
   ·replace hc5 := of_decide_eq_true hc5
    refine AW_region rfl ?_
    refine qm ?_
    refine qm ?_
    refine qp (v := vn (cntB s)) (PO_call rfl rfl rfl (count_ _ (by first | assumption | omega))) ?_
    refine qp (v := vn (cntB s + 1)) (PO_inc rfl rfl rfl (by first | omega | simp_all; omega)) ?_
    refine qa ?_
    refine AL_keep [(0,_),(1,_),(2,_),(3,_),(8,_)] ⟨rfl,rfl,rfl,rfl,rfl,trivial⟩ ?_
    refine AL_nil (AW_seq (AW_region rfl ?_))
    refine qm ?_
    refine qm ?_
    refine qp (v := vi (s.size : Int)) (PO_len_str rfl un9 rfl) ?_
    refine qp (v := vn (s.size + 1)) (PO_inc rfl rfl rfl (by first | omega | simp_all; omega)) ?_
    refine qp (v := vn (nP s)) (PO_eqI (PO_min rfl rfl rfl) (by unfold nP; split <;> omega)) ?_
    refine qa ?_
    refine AL_keep [(0,_),(1,_),(2,_),(3,_),(8,_)] ⟨rfl,rfl,rfl,rfl,rfl,trivial⟩ ?_
    refine AL_nil (AW_seq (AW_region rfl ?_))
    refine qm ?_
    refine AL_makeSl (c := nP s) rfl rfl rfl rfl un90 ty9 z9 rfl by9 rfl rfl (by omega) (by omega) fun b hb => ?_
    refine qa ?_
    refine AL_keep [(0,_),(1,_),(2,_),(3,_),(8,_),(9,_)] ⟨rfl,rfl,rfl,rfl,rfl,rfl,trivial⟩ ?_
    refine AL_nil (AW_seq (AW_region rfl ?_))
    refine qm ?_
    refine qp (v := vn (nP s - 1)) (PO_fit rfl rfl rfl rfl trivial (by rw [i64w (by omega) (by omega)]; omega)) ?_
    refine qa ?_
    refine AL_keep [(0,_),(1,_),(2,_),(3,_),(8,_),(9,_)] ⟨rfl,rfl,rfl,rfl,rfl,rfl,trivial⟩ ?_
    refine AL_nil (AW_seq (AW_region rfl ?_))
    refine qa (v := vi 0) ?_
    refine AL_nil (AW_seq (AW_block ?_))
    refine AW_iter (fun (z_ : Nat × ByteArray × List ByteArray × Heap) => match z_ with | (i, u, acc, hp) => [(10, .lit (.int .i64 ((i : Nat) : Int))), (0, .lit (.string u)), (9, .ms b 0 1 (nP s) (nP s)), (1, .lit (.string dash)), (2, .lit (.int .i64 0)), (3, .lit (.int .i64 ((nP s - 1 : Nat) : Int))), (8, .sl .nil 1 [])]) (fun (z_ : Nat × ByteArray × List ByteArray × Heap) => match z_ with | (i, u, acc, hp) => hp) (fun (z_ : Nat × ByteArray × List ByteArray × Heap) => match z_ with | (i, u, acc, hp) => i ≤ nP s - 1 ∧ u.size ≤ s.size ∧ acc.length = i ∧ splitD s = acc ++ piecesG (nP s - 1 - i) u ∧ h.le hp ∧ hp b = some (.row (rowC acc (nP s - i)))) (fun (z_ : Nat × ByteArray × List ByteArray × Heap) => match z_ with | (i, u, acc, hp) => nP s - 1 - i) ((0, s, [], (h.upd b (some (.row (azeros zs9 (nP s))))))) ⟨rfl, rfl, rfl, rfl, rfl, rfl, rfl, trivial⟩ rfl (⟨by omega, by omega, rfl, rfl, Heap.le_upd (.refl h) hb _, (Heap.upd_same _ _ _).trans (by rw [rowC_zero]; rfl)⟩) ?_
    rintro ⟨i, u, acc, hp⟩ ⟨hIi, hu, hA, hS, hle, hrow⟩
    have hix := ixD_lt u
    have hus : u.size ≤ 1048576 := by omega
    refine AW_seq (AW_seq (AW_region rfl ?_))
    refine qm ?_
    refine qm ?_
    refine qp (v := vb (decide ((((i : Nat) : Int) : Int) < ((nP s - 1 : Nat) : Int)))) pI ?_
    refine AL_keep [(10,_),(0,_),(9,_),(1,_),(2,_),(3,_),(8,_),(36,_)] ⟨rfl,rfl,rfl,rfl,rfl,rfl,rfl,rfl,trivial⟩ ?_
    refine AL_nil ?_
    refine AW_cond _ rfl (fun hc11 => ?_) (fun hc11 => ?_)
    ·replace hc11 := of_decide_eq_true hc11
     have hpk : nP s - 1 - i = (nP s - 1 - (i + 1)) + 1 := by omega
     rw [hpk, piecesG] at hS
     refine AW_skip (AW_block (AW_seq (AW_region rfl ?_)))
     refine qm ?_
     refine qm ?_
     refine qp (v := vi (ixD u)) (PO_call rfl rfl rfl (index_ _ (by first | assumption | omega))) ?_
     refine qa ?_
     refine AL_keep [(10,_),(0,_),(9,_),(1,_),(2,_),(3,_),(8,_),(11,_)] ⟨rfl,rfl,rfl,rfl,rfl,rfl,rfl,rfl,trivial⟩ ?_
     refine AL_nil (AW_seq (AW_seq (AW_region rfl ?_)))
     refine qm ?_
     refine qp (v := vb (decide (((ixD u) : Int) < 0))) pI ?_
     refine AL_keep [(10,_),(0,_),(9,_),(1,_),(2,_),(3,_),(8,_),(11,_),(41,_)] ⟨rfl,rfl,rfl,rfl,rfl,rfl,rfl,rfl,rfl,trivial⟩ ?_
     refine AL_nil ?_
     refine AW_cond _ rfl (fun hc13 => ?_) (fun hc13 => ?_)
     ·replace hc13 := of_decide_eq_true hc13
      rw [if_pos hc13] at hS
      refine AW_exit ?_
      refine AW_seq (AW_region rfl ?_)
      refine qm ?_
      refine qm ?_
      refine qm ?_
      refine qp (v := .ptr b (0 + i * 1)) (PO_indexAddr_ms (i := ((i : Nat) : Int)) rfl un90 ty9 rfl rfl (by omega) (by omega)) ?_
      refine AL_store (b := b) (off := 0 + i * 1) (cs := rowC acc (nP s - i)) (v := .lit (.string u)) rfl rfl rfl ty9 rfl rfl hrow rfl rfl (by rw [rowC_len]; omega) ?_
      refine AL_keep [(10,_),(0,_),(9,_),(1,_),(2,_),(3,_),(8,_),(11,_)] ⟨rfl,rfl,rfl,rfl,rfl,rfl,rfl,rfl,trivial⟩ ?_
      refine AL_nil (AW_seq (AW_region rfl ?_))
      refine qm ?_
      refine qm ?_
      refine qp (v := vn (i + 1)) (PO_inc rfl rfl rfl (by first | omega | simp_all; omega)) ?_
      refine qp (v := .ms b (0 + 0 * 1) 1 (i + 1 - 0) (nP s - 0)) (PO_slice_ms (i := 0) (j := ((i + 1 : Nat) : Int)) rfl un90 ty9 rfl rfl rfl (by omega) (by omega) (by omega) (.inl rfl)) ?_
      refine qa ?_
      refine AL_keep [(10,_),(0,_),(9,_),(1,_),(2,_),(3,_),(8,_),(11,_)] ⟨rfl,rfl,rfl,rfl,rfl,rfl,rfl,rfl,trivial⟩ ?_
      refine AL_nil ?_
      refine AW_ghost (ghost_ms (k := 8) (es := (acc ++ [u]).map eStr) (cs := rowC (acc ++ [u]) (nP s - i - 1)) rfl ((Heap.upd_same _ _ _).trans (rowC_set2 hA (by omega) _)) (by simp; omega) (by intro e he; rw [List.mem_map] at he; obtain ⟨x, -, rfl⟩ := he; rfl) rowC_get (by omega)) ?_
      refine AW_ret ?_
      exact ret_le2 (.inl rfl) rfl (by rw [hS]) (Heap.le_upd (Heap.le_upd hle hb _) hb _)
     ·replace hc13 := of_decide_eq_false hc13
      rw [if_neg hc13] at hS
      refine AW_skip (AW_seq (AW_region rfl ?_))
      refine qm ?_
      refine qm ?_
      refine qm ?_
      refine qm ?_
      refine qm (v := vi 0) ?_
      refine qp (v := vi (ixD u)) (PO_fit rfl rfl rfl rfl trivial (by rw [i64w (by omega) (by omega)]; omega)) ?_
      refine qp (v := vs (u.extract 0 ((ixD u)).toNat)) (PO_slice_str (l := 0) (h := (ixD u)) rfl un9 rfl rfl rfl (by omega) (by omega) (by omega)) ?_
      refine qp (v := .ptr b (0 + i * 1)) (PO_indexAddr_ms (i := ((i : Nat) : Int)) rfl un90 ty9 rfl rfl (by omega) (by omega)) ?_
      refine AL_store (b := b) (off := 0 + i * 1) (cs := rowC acc (nP s - i)) (v := .lit (.string (u.extract 0 (ixD u).toNat))) rfl rfl rfl ty9 rfl rfl hrow rfl rfl (by rw [rowC_len]; omega) ?_
      refine AL_keep [(10,_),(0,_),(9,_),(1,_),(2,_),(3,_),(8,_),(11,_)] ⟨rfl,rfl,rfl,rfl,rfl,rfl,rfl,rfl,trivial⟩ ?_
      refine AL_nil (AW_seq (AW_region rfl ?_))
      refine qm ?_
      refine qm ?_
      refine qm ?_
      refine qp (v := vi 1) (PO_len_str (s := dash) rfl un9 rfl) ?_
      refine qp (v := vn ((ixD u).toNat + 1)) (PO_fit rfl rfl rfl rfl trivial (by rw [i64w (by omega) (by omega)]; omega)) ?_
      refine qp (v := vs (u.extract ((ixD u).toNat + 1) u.size)) (PO_slice_str (l := (((ixD u).toNat + 1 : Nat) : Int)) (h := (u.size : Int)) rfl un9 rfl rfl rfl (by omega) (by omega) (by omega)) ?_
      refine qa ?_
      refine AL_keep [(10,_),(0,_),(9,_),(1,_),(2,_),(3,_),(8,_),(11,_)] ⟨rfl,rfl,rfl,rfl,rfl,rfl,rfl,rfl,trivial⟩ ?_
      refine AL_nil (AW_region rfl ?_)
      refine qm ?_
      refine qp (v := vn (i + 1)) (PO_inc rfl rfl rfl (by first | omega | simp_all; omega)) ?_
      refine qa ?_
      refine AL_keep [(10,_),(0,_),(9,_),(1,_),(2,_),(3,_),(8,_),(11,_)] ⟨rfl,rfl,rfl,rfl,rfl,rfl,rfl,rfl,trivial⟩ ?_
      refine AL_nil ?_
      exact ⟨(i + 1, (u.extract ((ixD u).toNat + 1) u.size), acc ++ [(u.extract 0 (ixD u).toNat)], _), ⟨by omega, by rw [ByteArray.size_extract]; omega, by rw [List.length_append, hA]; rfl, by rw [hS, List.append_assoc]; rfl, Heap.le_upd hle hb _, (Heap.upd_same _ _ _).trans (rowC_set2 hA (by omega) _)⟩, by simp only []; omega, ⟨rfl, ⟨rfl, rfl, rfl, rfl, rfl, rfl, rfl, trivial⟩, rfl, rfl, rfl⟩⟩
    ·replace hc11 := of_decide_eq_false hc11
     rw [show nP s - 1 - i = 0 by omega, piecesG] at hS
     refine AW_exit ?_
     refine AW_seq (AW_region rfl ?_)
     refine qm ?_
     refine qm ?_
     refine qm ?_
     refine qp (v := .ptr b (0 + i * 1)) (PO_indexAddr_ms (i := ((i : Nat) : Int)) rfl un90 ty9 rfl rfl (by omega) (by omega)) ?_
     refine AL_store (b := b) (off := 0 + i * 1) (cs := rowC acc (nP s - i)) (v := .lit (.string u)) rfl rfl rfl ty9 rfl rfl hrow rfl rfl (by rw [rowC_len]; omega) ?_
     refine AL_keep [(10,_),(0,_),(9,_),(1,_),(2,_),(3,_),(8,_)] ⟨rfl,rfl,rfl,rfl,rfl,rfl,rfl,trivial⟩ ?_
     refine AL_nil (AW_seq (AW_region rfl ?_))
     refine qm ?_
     refine qm ?_
     refine qp (v := vn (i + 1)) (PO_inc rfl rfl rfl (by first | omega | simp_all; omega)) ?_
     refine qp (v := .ms b (0 + 0 * 1) 1 (i + 1 - 0) (nP s - 0)) (PO_slice_ms (i := 0) (j := ((i + 1 : Nat) : Int)) rfl un90 ty9 rfl rfl rfl (by omega) (by omega) (by omega) (.inl rfl)) ?_
     refine qa ?_
     refine AL_keep [(10,_),(0,_),(9,_),(1,_),(2,_),(3,_),(8,_)] ⟨rfl,rfl,rfl,rfl,rfl,rfl,rfl,trivial⟩ ?_
     refine AL_nil ?_
     refine AW_ghost (ghost_ms (k := 8) (es := (acc ++ [u]).map eStr) (cs := rowC (acc ++ [u]) (nP s - i - 1)) rfl ((Heap.upd_same _ _ _).trans (rowC_set2 hA (by omega) _)) (by simp; omega) (by intro e he; rw [List.mem_map] at he; obtain ⟨x, -, rfl⟩ := he; rfl) rowC_get (by omega)) ?_
     refine AW_ret ?_
     exact ret_le2 (.inl rfl) rfl (by rw [hS]) (Heap.le_upd (Heap.le_upd hle hb _) hb _)
   ·replace hc5 := of_decide_eq_false hc5
    exact absurd (by decide) hc5
theorem split_ (s : ByteArray) (hs : s.size ≤ 1048576) : PFn PR (.fn (.func 110) [] []) [.lit (.string s), .lit (.string dash)] (.sl .any 1 ((splitD s).map eStr)) := by
 refine PFn_of Go.Proofs.Tryd.func110 rfl (by rfl) Go.Proofs.Tryd.ntmps110 rfl (by simp) fun h => ?_
 refine AW_seq (AW_region rfl ?_)
 refine qp (v := .sl .nil 1 []) (PO_nil_assign rfl) ?_
 refine AL_nil (AW_seq (AW_region rfl ?_))
 refine qm ?_
 refine qm ?_
 refine qp (v := .sl .any 1 ((splitD s).map eStr)) (PO_call rfl rfl rfl (gensplit_ _ (by first | assumption | omega))) ?_
 refine qa ?_
 refine AL_keep [(0,_),(1,_),(4,_)] ⟨rfl,rfl,rfl,trivial⟩ ?_
 refine AL_nil ?_
 refine AW_ret ?_
 exact ret_le2 (.inl rfl) rfl (by rfl) (.refl _)
end Go.AM.Tryd
end
section
set_option maxRecDepth 100000
set_option linter.unusedVariables false
set_option linter.unusedSimpArgs false
namespace Go.AM.Tryd
open Go Go.AM Go.AM.D
theorem piecesG_size : ∀ (k : Nat) (s : ByteArray), ∀ x ∈ piecesG k s, x.size ≤ s.size := by
 intro k
 induction k with
 | zero => intro s x hx; simp only [piecesG, List.mem_singleton] at hx; subst hx; exact Nat.le_refl _
 | succ k ih =>
  intro s x hx
  rw [piecesG] at hx
  split at hx
  ·simp only [List.mem_singleton] at hx; subst hx; exact Nat.le_refl _
  ·rcases List.mem_cons.1 hx with rfl | hx
   ·rw [ByteArray.size_extract]; omega
   ·have := ih _ x hx; rw [ByteArray.size_extract] at this; omega
theorem piecesG_len : ∀ (k : Nat) (s : ByteArray), (piecesG k s).length ≤ k + 1 := by
 intro k
 induction k with
 | zero => intro s; simp [piecesG]
 | succ k ih =>
  intro s
  rw [piecesG]
  split
  ·simp
  ·have := ih (s.extract ((ixD s).toNat + 1) s.size); simp only [List.length_cons]; omega
theorem splitD_len (s : ByteArray) : (splitD s).length ≤ s.size + 1 := by
 have := piecesG_len (min (cntB s + 1) (s.size + 1) - 1) s
 unfold splitD; omega
def tagUB (i : Int) (c : Int) : Bool := (decide (c < 97) || decide (c > 122)) && (decide (i = 0) || !digitF c)
def partU (i : Int) : List UInt8 → Bool
 | [] => true
 | x :: l => if tagUB i ((x : UInt8).toNat : Int) = true then false else partU i l
def partsU : Int → List ByteArray → Bool
 | _, [] => true
 | i, p :: l => if p = ⟨#[]⟩ then false else if partU i (bys p) = true then partsU (i + 1) l else false
def tagU (s : ByteArray) : Bool := if partsU 0 (splitD s) = true then decide ((s.size : Int) ≤ 35) else false
theorem tag101_ (s : ByteArray) (hs : s.size ≤ 1048576) : PFn PR (.fn (.func 101) [] []) [.lit (.string s)] (.lit (.bool (tagU s))) := by
 have hsl := splitD_len s
 refine PFn_of Go.Proofs.Tryd.func101 rfl (by rfl) Go.Proofs.Tryd.ntmps101 rfl (by simp) fun h => ?_
 refine AW_seq (AW_region rfl ?_)
 refine qa (v := vb false) ?_
 refine AL_nil (AW_seq (AW_seq (AW_region rfl ?_)))
 refine qm ?_
 refine qp (v := .sl .any 1 ((splitD s).map eStr)) (PO_call rfl rfl rfl (split_ _ (by first | assumption | omega))) ?_
 refine qp (v := vi ((splitD s).length : Int)) (PO_lenM rfl un90 rfl) ?_
 refine qm (v := vi 0) ?_
 refine AL_keep [(0,_),(2,_),(8,_),(9,_),(10,_)] ⟨rfl,rfl,rfl,rfl,rfl,trivial⟩ ?_
 refine AL_nil (AW_block ?_)
 refine AW_iter (fun (i : Nat) => [(10, .lit (.int .i64 ((i : Nat) : Int))), (0, .lit (.string s)), (2, .lit (.bool false)), (8, .sl .any 1 ((splitD s).map eStr)), (9, .lit (.int .i64 ((splitD s).length : Int)))]) (fun (i : Nat) => h) (fun (i : Nat) => i ≤ (splitD s).length ∧ partsU 0 (splitD s) = partsU ((i : Nat) : Int) ((splitD s).drop i)) (fun (i : Nat) => (splitD s).length - i) (0) ⟨rfl, rfl, rfl, rfl, rfl, trivial⟩ rfl (⟨by omega, rfl⟩) ?_
 rintro i ⟨hIi, hSi⟩
 refine AW_seq (AW_region rfl ?_)
 refine qp (v := vb (decide ((((i : Nat) : Int) : Int) < ((splitD s).length : Int)))) pI ?_
 refine AL_nil (AW_seq ?_)
 refine AW_cond _ rfl (fun hc0 => ?_) (fun hc0 => ?_)
 ·replace hc0 := of_decide_eq_true hc0
  obtain ⟨q, hrq, hdq, hmq⟩ := drop_at (l := (splitD s)) (i := i) (by omega)
  rw [hdq, partsU] at hSi
  have hqs : q.size ≤ 1048576 := Nat.le_trans (piecesG_size _ _ q hmq) hs
  have hqz := bsize q
  refine AW_skip (AW_seq (AW_block (AW_seq (AW_region rfl ?_))))
  refine qm ?_
  refine qp (v := .ip (eStr q)) (PO_indexAddr rfl un90 ty9 rfl rfl (by first | decide | omega) (mget hrq)) ?_
  refine qp (v := vs q) (PO_load rfl ty9 rfl rfl) ?_
  refine qa ?_
  refine qa ?_
  refine AL_keep [(10,_),(0,_),(2,_),(8,_),(9,_),(3,_),(4,_)] ⟨rfl,rfl,rfl,rfl,rfl,rfl,rfl,trivial⟩ ?_
  refine AL_nil (AW_seq (AW_seq (AW_region rfl ?_)))
  refine qm ?_
  refine qp (v := vb (decide (q = ⟨#[]⟩))) (PO_str rfl rfl rfl rfl) ?_
  refine AL_keep [(10,_),(0,_),(2,_),(8,_),(9,_),(3,_),(4,_),(16,_)] ⟨rfl,rfl,rfl,rfl,rfl,rfl,rfl,rfl,trivial⟩ ?_
  refine AL_nil ?_
  refine AW_cond _ rfl (fun hc4 => ?_) (fun hc4 => ?_)
  ·replace hc4 := of_decide_eq_true hc4
   rw [if_pos hc4] at hSi
   have hw : tagU s = false := by rw [tagU, hSi]; rfl
   refine AW_seq (AW_region rfl ?_)
   refine qa (v := vb false) ?_
   refine AL_nil ?_
   refine AW_ret ?_
   exact ret_le2 (.inl rfl) rfl (by rw [hw]) (.refl _)
  ·replace hc4 := of_decide_eq_false hc4
   rw [if_neg hc4] at hSi
   refine AW_skip (AW_seq (AW_region rfl ?_))
   refine qm ?_
   refine qp (v := vi (q.size : Int)) (PO_len_str rfl un9 rfl) ?_
   refine qm (v := vi 0) ?_
   refine AL_keep [(10,_),(0,_),(2,_),(8,_),(9,_),(3,_),(4,_),(18,_),(19,_)] ⟨rfl,rfl,rfl,rfl,rfl,rfl,rfl,rfl,rfl,trivial⟩ ?_
   refine AL_nil (AW_block ?_)
   refine AW_iter (fun (k : Nat) => [(19, .lit (.int .i64 ((k : Nat) : Int))), (10, .lit (.int .i64 ((i : Nat) : Int))), (0, .lit (.string s)), (2, .lit (.bool false)), (8, .sl .any 1 ((splitD s).map eStr)), (9, .lit (.int .i64 ((splitD s).length : Int))), (3, .lit (.int .i64 ((i : Nat) : Int))), (4, .lit (.string q)), (18, .lit (.int .i64 (q.size : Int)))]) (fun (k : Nat) => h) (fun (k : Nat) => k ≤ (bys q).length ∧ partU ((i : Nat) : Int) (bys q) = partU ((i : Nat) : Int) ((bys q).drop k)) (fun (k : Nat) => (bys q).length - k) (0) ⟨rfl, rfl, rfl, rfl, rfl, rfl, rfl, rfl, rfl, trivial⟩ rfl (⟨by omega, rfl⟩) ?_
   rintro k ⟨hIk, hSk⟩
   refine AW_seq (AW_region rfl ?_)
   refine qp (v := vb (decide ((((k : Nat) : Int) : Int) < (q.size : Int)))) pI ?_
   refine AL_nil (AW_seq ?_)
   refine AW_cond _ rfl (fun hc2 => ?_) (fun hc2 => ?_)
   ·replace hc2 := of_decide_eq_true hc2
    obtain ⟨x, hrx, hdx, hmx⟩ := drop_at (l := (bys q)) (i := k) (by omega)
    rw [hdx, partU] at hSk
    refine AW_skip (AW_seq (AW_block (AW_seq (AW_region rfl ?_))))
    refine qm ?_
    refine qa ?_
    refine AL_keep [(19,_),(10,_),(0,_),(2,_),(8,_),(9,_),(3,_),(4,_),(18,_),(5,_)] ⟨rfl,rfl,rfl,rfl,rfl,rfl,rfl,rfl,rfl,rfl,trivial⟩ ?_
    refine AL_nil (AW_seq (AW_region rfl ?_))
    refine qm ?_
    refine qm ?_
    refine qp (v := .lit (.int .u8 ((x : UInt8).toNat : Int))) (PO_index_str rfl un9 rfl rfl (by first | decide | omega) (bget hrx)) ?_
    refine qa ?_
    refine AL_keep [(19,_),(10,_),(0,_),(2,_),(8,_),(9,_),(3,_),(4,_),(18,_),(5,_),(6,_)] ⟨rfl,rfl,rfl,rfl,rfl,rfl,rfl,rfl,rfl,rfl,rfl,trivial⟩ ?_
    refine AL_nil (AW_seq (AW_region rfl ?_))
    refine qm ?_
    refine qp (v := vb (decide ((((x : UInt8).toNat : Int) : Int) < 97))) pI ?_
    refine qm ?_
    refine AL_jk 3 30 (vb ((decide ((((x : UInt8).toNat : Int) : Int) < 97)) || (decide ((((x : UInt8).toNat : Int) : Int) > 122)))) [(19,_),(10,_),(0,_),(2,_),(8,_),(9,_),(3,_),(4,_),(18,_),(5,_),(6,_),(25,_),(26,_),(27,_)] ⟨rfl,rfl,rfl,rfl,rfl,rfl,rfl,rfl,rfl,rfl,rfl,rfl,rfl,rfl,trivial⟩ ?_ ?_
    ·refine AL_split 27 _ rfl (fun hg27 => ?_) (fun hg27 => ?_)
     ·refine qz ?_
      refine qz ?_
      refine qk ?_
      refine AL_say (k := 30) (vb ((decide ((((x : UInt8).toNat : Int) : Int) < 97)) || (decide ((((x : UInt8).toNat : Int) : Int) > 122)))) rfl (by rw [hg27]; rfl) ?_
      refine AL_say (k := 27) (vb (decide ((((x : UInt8).toNat : Int) : Int) < 97))) rfl (by rw [hg27]) ?_
      exact nl ⟨rfl,rfl,rfl,rfl,rfl,rfl,rfl,rfl,rfl,rfl,rfl,rfl,rfl,rfl,rfl,trivial⟩
     ·refine gm ?_
      refine qg (v := vb (decide ((((x : UInt8).toNat : Int) : Int) > 122))) pI ?_
      refine qk ?_
      refine AL_say (k := 30) (vb ((decide ((((x : UInt8).toNat : Int) : Int) < 97)) || (decide ((((x : UInt8).toNat : Int) : Int) > 122)))) rfl (by rw [hg27]; rfl) ?_
      refine AL_say (k := 27) (vb (decide ((((x : UInt8).toNat : Int) : Int) < 97))) rfl (by rw [hg27]) ?_
      exact nl ⟨rfl,rfl,rfl,rfl,rfl,rfl,rfl,rfl,rfl,rfl,rfl,rfl,rfl,rfl,rfl,trivial⟩
    ·refine qm ?_
     refine AL_jk 8 39 (vb (((decide ((((x : UInt8).toNat : Int) : Int) < 97)) || (decide ((((x : UInt8).toNat : Int) : Int) > 122))) && ((decide ((((i : Nat) : Int) : Int) = 0)) || (!(digitF ((x : UInt8).toNat : Int)))))) [(30,_),(19,_),(10,_),(0,_),(2,_),(8,_),(9,_),(3,_),(4,_),(18,_),(5,_),(6,_),(25,_),(26,_),(27,_),(31,_)] ⟨rfl,rfl,rfl,rfl,rfl,rfl,rfl,rfl,rfl,rfl,rfl,rfl,rfl,rfl,rfl,rfl,trivial⟩ ?_ ?_
     ·refine AL_split 31 _ rfl (fun hg31 => ?_) (fun hg31 => ?_)
      ·refine gm ?_
       refine qg (v := vb (decide ((((i : Nat) : Int) : Int) = 0))) pI ?_
       refine gm ?_
       refine AL_jk 4 38 (vb ((decide ((((i : Nat) : Int) : Int) = 0)) || (!(digitF ((x : UInt8).toNat : Int))))) [(30,_),(19,_),(10,_),(0,_),(2,_),(8,_),(9,_),(3,_),(4,_),(18,_),(5,_),(6,_),(25,_),(26,_),(27,_),(31,_),(32,_),(33,_),(34,_)] ⟨rfl,rfl,rfl,rfl,rfl,rfl,rfl,rfl,rfl,rfl,rfl,rfl,rfl,rfl,rfl,rfl,rfl,rfl,rfl,trivial⟩ ?_ ?_
       ·refine AL_split 34 _ rfl (fun hg34 => ?_) (fun hg34 => ?_)
        ·refine qz ?_
         refine qz ?_
         refine qz ?_
         refine gk ?_
         refine AL_say (k := 38) (vb ((decide ((((i : Nat) : Int) : Int) = 0)) || (!(digitF ((x : UInt8).toNat : Int))))) rfl (by rw [hg34]; rfl) ?_
         refine AL_say (k := 34) (vb (decide ((((i : Nat) : Int) : Int) = 0))) rfl (by rw [hg34]) ?_
         exact nl ⟨rfl,rfl,rfl,rfl,rfl,rfl,rfl,rfl,rfl,rfl,rfl,rfl,rfl,rfl,rfl,rfl,rfl,rfl,rfl,rfl,trivial⟩
        ·refine gm ?_
         refine qg (v := vb (digitF ((x : UInt8).toNat : Int))) (PO_call rfl rfl rfl (digit109_ _)) ?_
         refine qg (v := vb (!(digitF ((x : UInt8).toNat : Int)))) (PO_not (b := (digitF ((x : UInt8).toNat : Int))) rfl rfl) ?_
         refine gk ?_
         refine AL_say (k := 38) (vb ((decide ((((i : Nat) : Int) : Int) = 0)) || (!(digitF ((x : UInt8).toNat : Int))))) rfl (by rw [hg34]; rfl) ?_
         refine AL_say (k := 34) (vb (decide ((((i : Nat) : Int) : Int) = 0))) rfl (by rw [hg34]) ?_
         exact nl ⟨rfl,rfl,rfl,rfl,rfl,rfl,rfl,rfl,rfl,rfl,rfl,rfl,rfl,rfl,rfl,rfl,rfl,rfl,rfl,rfl,trivial⟩
       ·refine qk ?_
        refine AL_say (k := 39) (vb (((decide ((((x : UInt8).toNat : Int) : Int) < 97)) || (decide ((((x : UInt8).toNat : Int) : Int) > 122))) && ((decide ((((i : Nat) : Int) : Int) = 0)) || (!(digitF ((x : UInt8).toNat : Int)))))) rfl (by rw [hg31]; rfl) ?_
        refine AL_say (k := 31) (vb ((decide ((((x : UInt8).toNat : Int) : Int) < 97)) || (decide ((((x : UInt8).toNat : Int) : Int) > 122)))) rfl (by rw [hg31]) ?_
        exact nl ⟨rfl,rfl,rfl,rfl,rfl,rfl,rfl,rfl,rfl,rfl,rfl,rfl,rfl,rfl,rfl,rfl,rfl,trivial⟩
      ·refine qz ?_
       refine qz ?_
       refine qz ?_
       refine qy ?_
       refine qy ?_
       refine qy ?_
       refine qz ?_
       refine qk ?_
       refine AL_say (k := 39) (vb (((decide ((((x : UInt8).toNat : Int) : Int) < 97)) || (decide ((((x : UInt8).toNat : Int) : Int) > 122))) && ((decide ((((i : Nat) : Int) : Int) = 0)) || (!(digitF ((x : UInt8).toNat : Int)))))) rfl (by rw [hg31]; rfl) ?_
       refine AL_say (k := 31) (vb ((decide ((((x : UInt8).toNat : Int) : Int) < 97)) || (decide ((((x : UInt8).toNat : Int) : Int) > 122)))) rfl (by rw [hg31]) ?_
       exact nl ⟨rfl,rfl,rfl,rfl,rfl,rfl,rfl,rfl,rfl,rfl,rfl,rfl,rfl,rfl,rfl,rfl,rfl,trivial⟩
     ·refine AL_keep [(39,_),(19,_),(10,_),(0,_),(2,_),(8,_),(9,_),(3,_),(4,_),(18,_),(5,_),(6,_)] ⟨rfl,rfl,rfl,rfl,rfl,rfl,rfl,rfl,rfl,rfl,rfl,rfl,trivial⟩ ?_
      refine AL_nil ?_
      refine AW_cond _ rfl (fun hc10 => ?_) (fun hc10 => ?_)
      ·rw [tagUB, if_pos hc10] at hSk
       rw [hSk, if_neg (by simp)] at hSi
       have hw : tagU s = false := by rw [tagU, hSi]; rfl
       refine AW_seq (AW_region rfl ?_)
       refine qa (v := vb false) ?_
       refine AL_nil ?_
       refine AW_ret ?_
       exact ret_le2 (.inl rfl) rfl (by rw [hw]) (.refl _)
      ·rw [tagUB, if_neg (by rw [hc10]; simp)] at hSk
       refine AW_skip (AW_region rfl ?_)
       refine qp (v := vn (k + 1)) (PO_inc rfl rfl rfl (by first | omega | simp_all; omega)) ?_
       refine qm ?_
       refine AL_keep [(19,_),(10,_),(0,_),(2,_),(8,_),(9,_),(3,_),(4,_),(18,_),(5,_),(6,_)] ⟨rfl,rfl,rfl,rfl,rfl,rfl,rfl,rfl,rfl,rfl,rfl,trivial⟩ ?_
       refine AL_nil ?_
       exact ⟨k + 1, ⟨by omega, hSk⟩, by omega, ⟨rfl, ⟨rfl, rfl, rfl, rfl, rfl, rfl, rfl, rfl, rfl, trivial⟩, rfl, rfl, rfl⟩⟩
   ·replace hc2 := of_decide_eq_false hc2
    rw [drop_end (l := (bys q)) (i := k) (by omega), partU] at hSk
    rw [if_pos hSk] at hSi
    refine AW_exit ?_
    refine AW_region rfl ?_
    refine qp (v := vn (i + 1)) (PO_inc rfl rfl rfl (by first | omega | simp_all; omega)) ?_
    refine qm ?_
    refine AL_keep [(19,_),(10,_),(0,_),(2,_),(8,_),(9,_),(3,_),(4,_),(18,_)] ⟨rfl,rfl,rfl,rfl,rfl,rfl,rfl,rfl,rfl,trivial⟩ ?_
    refine AL_nil ?_
    exact ⟨i + 1, ⟨by omega, hSi⟩, by omega, ⟨rfl, ⟨rfl, rfl, rfl, rfl, rfl, trivial⟩, rfl, rfl, rfl⟩⟩
 ·replace hc0 := of_decide_eq_false hc0
  rw [drop_end (l := (splitD s)) (i := i) (by omega), partsU] at hSi
  have hw : tagU s = decide ((s.size : Int) ≤ 35) := by rw [tagU, if_pos hSi]
  refine AW_exit ?_
  refine AW_seq (AW_region rfl ?_)
  refine qm ?_
  refine qp (v := vi (s.size : Int)) (PO_len_str rfl un9 rfl) ?_
  refine qp (v := vb (decide (((s.size : Int) : Int) ≤ 35))) pI ?_
  refine qa ?_
  refine AL_keep [(10,_),(0,_),(2,_),(8,_),(9,_)] ⟨rfl,rfl,rfl,rfl,rfl,trivial⟩ ?_
  refine AL_nil ?_
  refine AW_ret ?_
  exact ret_le2 (.inl rfl) rfl (by rw [hw]) (.refl _)
def k4F (t : Term) : Bool := valU t.text && tagU t.extra
theorem kind100_ (t : Term) (ht : okT t) : PFn PR (.fn (.func 100) [] []) [.agg (eTerm t)] (.lit (.bool (k4F t))) := by
 have h1 := ht.1
 have h2 := ht.2
 refine PFn_of Go.Proofs.Tryd.func100 rfl (by rfl) Go.Proofs.Tryd.ntmps100 rfl (by simp) fun h => ?_
 refine AW_seq (AW_region rfl ?_)
 refine qp (v := .ip (eTerm t)) (PO_boxA rfl rfl) ?_
 refine qa (v := vb false) ?_
 refine AL_nil (AW_seq (AW_region rfl ?_))
 refine qp (v := .ip (List.drop 1 (eTerm t))) (PO_fieldAddr rfl f25_1 rfl) ?_
 refine qp (v := vs t.text) (PO_load rfl ty9 rfl rfl) ?_
 refine qp (v := vb (valU t.text)) (PO_call rfl rfl rfl (value_ _ (by first | assumption | omega))) ?_
 refine qm ?_
 refine AL_jk 4 10 (vb ((valU t.text) && (tagU t.extra))) [(0,_),(1,_),(2,_),(3,_),(4,_),(5,_),(6,_)] ⟨rfl,rfl,rfl,rfl,rfl,rfl,rfl,trivial⟩ ?_ ?_
 ·refine AL_split 6 _ rfl (fun hg6 => ?_) (fun hg6 => ?_)
  ·refine qg (v := .ip (List.drop 2 (eTerm t))) (PO_fieldAddr rfl f25_2 rfl) ?_
   refine qg (v := vs t.extra) (PO_load rfl ty9 rfl rfl) ?_
   refine qg (v := vb (tagU t.extra)) (PO_call rfl rfl rfl (tag101_ _ (by first | assumption | omega))) ?_
   refine qk ?_
   refine AL_say (k := 10) (vb ((valU t.text) && (tagU t.extra))) rfl (by rw [hg6]; rfl) ?_
   refine AL_say (k := 6) (vb (valU t.text)) rfl (by rw [hg6]) ?_
   exact nl ⟨rfl,rfl,rfl,rfl,rfl,rfl,rfl,rfl,trivial⟩
  ·refine qz ?_
   refine qz ?_
   refine qz ?_
   refine qk ?_
   refine AL_say (k := 10) (vb ((valU t.text) && (tagU t.extra))) rfl (by rw [hg6]; rfl) ?_
   refine AL_say (k := 6) (vb (valU t.text)) rfl (by rw [hg6]) ?_
   exact nl ⟨rfl,rfl,rfl,rfl,rfl,rfl,rfl,rfl,trivial⟩
 ·refine qa ?_
  refine AL_keep [(0,_),(1,_),(2,_)] ⟨rfl,rfl,rfl,trivial⟩ ?_
  refine AL_nil ?_
  refine AW_ret ?_
  exact ret_le2 (.inl rfl) rfl (by rfl) (.refl _)
theorem PO_eqA {P : Program} {ρ : Option Nat} {o : Oper} {σ : AS} {v u : AV} (hp : PO P ρ o σ v) (e : v = u) : PO P ρ o σ u := e ▸ hp
def termU (t : Term) : Bool := if t.kind = 1 then k1F t else if t.kind = 2 then k2F t else if t.kind = 3 then k3F t else if t.kind = 4 then k4F t else if t.kind = 5 then k5F t else false
theorem may89_1 (x e : ByteArray) (ht : okT (⟨1, x, e⟩ : Term)) : PFn PR (.fn (.func 89) [] []) [.agg (eTerm (⟨1, x, e⟩ : Term))] (.lit (.bool (k1F (⟨1, x, e⟩ : Term)))) := by
 refine PFn_of Go.Proofs.Tryd.func89 rfl (by rfl) Go.Proofs.Tryd.ntmps89 rfl (by simp) fun h => ?_
 refine AW_seq (AW_region rfl ?_)
 refine qp (v := .ip (eTerm (⟨1, x, e⟩ : Term))) (PO_boxA rfl rfl) ?_
 refine qa (v := vb false) ?_
 refine AL_nil (AW_seq ?_)
 refine AW_draw 5 [.im ks23 false kindsEs, .ip (List.drop 0 (eTerm (⟨1, x, e⟩ : Term))), .lit (.int .i64 ((⟨1, x, e⟩ : Term).kind)), .fn (.func 94) [] [], .fn (.func 94) [] []] [(0, .agg (eTerm (⟨1, x, e⟩ : Term))), (1, .ip (eTerm (⟨1, x, e⟩ : Term))), (2, .lit (.bool false)), (3, .fn (.func 94) [] [])] rfl hmixed (by kernel_rfl) rfl (by kernel_rfl) ⟨
  ⟨[], trivial, .inl ⟨rfl, PO_call rfl rfl rfl kinds92_⟩⟩,
  ⟨[(1, .ip (eTerm (⟨1, x, e⟩ : Term)))], ⟨.inr ⟨by kernel_rfl, rfl⟩, trivial⟩, .inl ⟨rfl, PO_fieldAddr rfl f25_0 rfl⟩⟩,
  ⟨[(5, .ip (List.drop 0 (eTerm (⟨1, x, e⟩ : Term))))], ⟨.inl ⟨1, by kernel_rfl, rfl, rfl⟩, trivial⟩, .inl ⟨rfl, PO_load rfl ty23 rfl rfl⟩⟩,
  ⟨[(4, .im ks23 false kindsEs), (6, .lit (.int .i64 ((⟨1, x, e⟩ : Term).kind)))], ⟨.inl ⟨0, by kernel_rfl, rfl, rfl⟩, .inl ⟨2, by kernel_rfl, rfl, rfl⟩, trivial⟩, .inl ⟨rfl, PO_eqA (PO_lookup_im rfl un151 key23 zw139 rfl rfl rfl rfl) (by rfl)⟩⟩,
  ⟨[(7, .fn (.func 94) [] [])], ⟨.inl ⟨3, by kernel_rfl, rfl, rfl⟩, trivial⟩, .inl ⟨rfl, PO_assign rfl rfl⟩⟩,
  trivial⟩ ⟨.inr ⟨by kernel_rfl, rfl⟩, .inr ⟨by kernel_rfl, rfl⟩, .inr ⟨by kernel_rfl, rfl⟩, .inl ⟨4, by decide, rfl, rfl⟩, trivial⟩ ?_
 refine AL_nil (AW_seq (AW_region rfl ?_))
 refine qm ?_
 refine qp (v := vb true) (PO_fnNil rfl (.inr rfl) un139 rfl rfl) ?_
 refine qm (v := vb true) ?_
 refine gm ?_
 refine qg (v := .agg (eTerm (⟨1, x, e⟩ : Term))) (PO_load rfl ty25 rfl rfl) ?_
 refine qg (v := vb (k1F (⟨1, x, e⟩ : Term))) (PO_call rfl rfl rfl (kind94_ _ (by assumption))) ?_
 refine qk ?_
 refine qa ?_
 refine AL_keep [(0,_),(1,_),(2,_),(3,_)] ⟨rfl,rfl,rfl,rfl,trivial⟩ ?_
 refine AL_nil ?_
 refine AW_ret ?_
 exact ret_le2 (.inl rfl) rfl (by rfl) (.refl _)
theorem may89_2 (x e : ByteArray) (ht : okT (⟨2, x, e⟩ : Term)) : PFn PR (.fn (.func 89) [] []) [.agg (eTerm (⟨2, x, e⟩ : Term))] (.lit (.bool (k2F (⟨2, x, e⟩ : Term)))) := by
 refine PFn_of Go.Proofs.Tryd.func89 rfl (by rfl) Go.Proofs.Tryd.ntmps89 rfl (by simp) fun h => ?_
 refine AW_seq (AW_region rfl ?_)
 refine qp (v := .ip (eTerm (⟨2, x, e⟩ : Term))) (PO_boxA rfl rfl) ?_
 refine qa (v := vb false) ?_
 refine AL_nil (AW_seq ?_)
 refine AW_draw 5 [.im ks23 false kindsEs, .ip (List.drop 0 (eTerm (⟨2, x, e⟩ : Term))), .lit (.int .i64 ((⟨2, x, e⟩ : Term).kind)), .fn (.func 96) [] [], .fn (.func 96) [] []] [(0, .agg (eTerm (⟨2, x, e⟩ : Term))), (1, .ip (eTerm (⟨2, x, e⟩ : Term))), (2, .lit (.bool false)), (3, .fn (.func 96) [] [])] rfl hmixed (by kernel_rfl) rfl (by kernel_rfl) ⟨
  ⟨[], trivial, .inl ⟨rfl, PO_call rfl rfl rfl kinds92_⟩⟩,
  ⟨[(1, .ip (eTerm (⟨2, x, e⟩ : Term)))], ⟨.inr ⟨by kernel_rfl, rfl⟩, trivial⟩, .inl ⟨rfl, PO_fieldAddr rfl f25_0 rfl⟩⟩,
  ⟨[(5, .ip (List.drop 0 (eTerm (⟨2, x, e⟩ : Term))))], ⟨.inl ⟨1, by kernel_rfl, rfl, rfl⟩, trivial⟩, .inl ⟨rfl, PO_load rfl ty23 rfl rfl⟩⟩,
  ⟨[(4, .im ks23 false kindsEs), (6, .lit (.int .i64 ((⟨2, x, e⟩ : Term).kind)))], ⟨.inl ⟨0, by kernel_rfl, rfl, rfl⟩, .inl ⟨2, by kernel_rfl, rfl, rfl⟩, trivial⟩, .inl ⟨rfl, PO_eqA (PO_lookup_im rfl un151 key23 zw139 rfl rfl rfl rfl) (by rfl)⟩⟩,
  ⟨[(7, .fn (.func 96) [] [])], ⟨.inl ⟨3, by kernel_rfl, rfl, rfl⟩, trivial⟩, .inl ⟨rfl, PO_assign rfl rfl⟩⟩,
  trivial⟩ ⟨.inr ⟨by kernel_rfl, rfl⟩, .inr ⟨by kernel_rfl, rfl⟩, .inr ⟨by kernel_rfl, rfl⟩, .inl ⟨4, by decide, rfl, rfl⟩, trivial⟩ ?_
 refine AL_nil (AW_seq (AW_region rfl ?_))
 refine qm ?_
 refine qp (v := vb true) (PO_fnNil rfl (.inr rfl) un139 rfl rfl) ?_
 refine qm (v := vb true) ?_
 refine gm ?_
 refine qg (v := .agg (eTerm (⟨2, x, e⟩ : Term))) (PO_load rfl ty25 rfl rfl) ?_
 refine qg (v := vb (k2F (⟨2, x, e⟩ : Term))) (PO_call rfl rfl rfl (kind96_ _ (by assumption))) ?_
 refine qk ?_
 refine qa ?_
 refine AL_keep [(0,_),(1,_),(2,_),(3,_)] ⟨rfl,rfl,rfl,rfl,trivial⟩ ?_
 refine AL_nil ?_
 refine AW_ret ?_
 exact ret_le2 (.inl rfl) rfl (by rfl) (.refl _)
theorem may89_3 (x e : ByteArray) (ht : okT (⟨3, x, e⟩ : Term)) : PFn PR (.fn (.func 89) [] []) [.agg (eTerm (⟨3, x, e⟩ : Term))] (.lit (.bool (k3F (⟨3, x, e⟩ : Term)))) := by
 refine PFn_of Go.Proofs.Tryd.func89 rfl (by rfl) Go.Proofs.Tryd.ntmps89 rfl (by simp) fun h => ?_
 refine AW_seq (AW_region rfl ?_)
 refine qp (v := .ip (eTerm (⟨3, x, e⟩ : Term))) (PO_boxA rfl rfl) ?_
 refine qa (v := vb false) ?_
 refine AL_nil (AW_seq ?_)
 refine AW_draw 5 [.im ks23 false kindsEs, .ip (List.drop 0 (eTerm (⟨3, x, e⟩ : Term))), .lit (.int .i64 ((⟨3, x, e⟩ : Term).kind)), .fn (.func 98) [] [], .fn (.func 98) [] []] [(0, .agg (eTerm (⟨3, x, e⟩ : Term))), (1, .ip (eTerm (⟨3, x, e⟩ : Term))), (2, .lit (.bool false)), (3, .fn (.func 98) [] [])] rfl hmixed (by kernel_rfl) rfl (by kernel_rfl) ⟨
  ⟨[], trivial, .inl ⟨rfl, PO_call rfl rfl rfl kinds92_⟩⟩,
  ⟨[(1, .ip (eTerm (⟨3, x, e⟩ : Term)))], ⟨.inr ⟨by kernel_rfl, rfl⟩, trivial⟩, .inl ⟨rfl, PO_fieldAddr rfl f25_0 rfl⟩⟩,
  ⟨[(5, .ip (List.drop 0 (eTerm (⟨3, x, e⟩ : Term))))], ⟨.inl ⟨1, by kernel_rfl, rfl, rfl⟩, trivial⟩, .inl ⟨rfl, PO_load rfl ty23 rfl rfl⟩⟩,
  ⟨[(4, .im ks23 false kindsEs), (6, .lit (.int .i64 ((⟨3, x, e⟩ : Term).kind)))], ⟨.inl ⟨0, by kernel_rfl, rfl, rfl⟩, .inl ⟨2, by kernel_rfl, rfl, rfl⟩, trivial⟩, .inl ⟨rfl, PO_eqA (PO_lookup_im rfl un151 key23 zw139 rfl rfl rfl rfl) (by rfl)⟩⟩,
  ⟨[(7, .fn (.func 98) [] [])], ⟨.inl ⟨3, by kernel_rfl, rfl, rfl⟩, trivial⟩, .inl ⟨rfl, PO_assign rfl rfl⟩⟩,
  trivial⟩ ⟨.inr ⟨by kernel_rfl, rfl⟩, .inr ⟨by kernel_rfl, rfl⟩, .inr ⟨by kernel_rfl, rfl⟩, .inl ⟨4, by decide, rfl, rfl⟩, trivial⟩ ?_
 refine AL_nil (AW_seq (AW_region rfl ?_))
 refine qm ?_
 refine qp (v := vb true) (PO_fnNil rfl (.inr rfl) un139 rfl rfl) ?_
 refine qm (v := vb true) ?_
 refine gm ?_
 refine qg (v := .agg (eTerm (⟨3, x, e⟩ : Term))) (PO_load rfl ty25 rfl rfl) ?_
 refine qg (v := vb (k3F (⟨3, x, e⟩ : Term))) (PO_call rfl rfl rfl (kind98_ _ (by assumption))) ?_
 refine qk ?_
 refine qa ?_
 refine AL_keep [(0,_),(1,_),(2,_),(3,_)] ⟨rfl,rfl,rfl,rfl,trivial⟩ ?_
 refine AL_nil ?_
 refine AW_ret ?_
 exact ret_le2 (.inl rfl) rfl (by rfl) (.refl _)
theorem may89_4 (x e : ByteArray) (ht : okT (⟨4, x, e⟩ : Term)) : PFn PR (.fn (.func 89) [] []) [.agg (eTerm (⟨4, x, e⟩ : Term))] (.lit (.bool (k4F (⟨4, x, e⟩ : Term)))) := by
 refine PFn_of Go.Proofs.Tryd.func89 rfl (by rfl) Go.Proofs.Tryd.ntmps89 rfl (by simp) fun h => ?_
 refine AW_seq (AW_region rfl ?_)
 refine qp (v := .ip (eTerm (⟨4, x, e⟩ : Term))) (PO_boxA rfl rfl) ?_
 refine qa (v := vb false) ?_
 refine AL_nil (AW_seq ?_)
 refine AW_draw 5 [.im ks23 false kindsEs, .ip (List.drop 0 (eTerm (⟨4, x, e⟩ : Term))), .lit (.int .i64 ((⟨4, x, e⟩ : Term).kind)), .fn (.func 100) [] [], .fn (.func 100) [] []] [(0, .agg (eTerm (⟨4, x, e⟩ : Term))), (1, .ip (eTerm (⟨4, x, e⟩ : Term))), (2, .lit (.bool false)), (3, .fn (.func 100) [] [])] rfl hmixed (by kernel_rfl) rfl (by kernel_rfl) ⟨
  ⟨[], trivial, .inl ⟨rfl, PO_call rfl rfl rfl kinds92_⟩⟩,
  ⟨[(1, .ip (eTerm (⟨4, x, e⟩ : Term)))], ⟨.inr ⟨by kernel_rfl, rfl⟩, trivial⟩, .inl ⟨rfl, PO_fieldAddr rfl f25_0 rfl⟩⟩,
  ⟨[(5, .ip (List.drop 0 (eTerm (⟨4, x, e⟩ : Term))))], ⟨.inl ⟨1, by kernel_rfl, rfl, rfl⟩, trivial⟩, .inl ⟨rfl, PO_load rfl ty23 rfl rfl⟩⟩,
  ⟨[(4, .im ks23 false kindsEs), (6, .lit (.int .i64 ((⟨4, x, e⟩ : Term).kind)))], ⟨.inl ⟨0, by kernel_rfl, rfl, rfl⟩, .inl ⟨2, by kernel_rfl, rfl, rfl⟩, trivial⟩, .inl ⟨rfl, PO_eqA (PO_lookup_im rfl un151 key23 zw139 rfl rfl rfl rfl) (by rfl)⟩⟩,
  ⟨[(7, .fn (.func 100) [] [])], ⟨.inl ⟨3, by kernel_rfl, rfl, rfl⟩, trivial⟩, .inl ⟨rfl, PO_assign rfl rfl⟩⟩,
  trivial⟩ ⟨.inr ⟨by kernel_rfl, rfl⟩, .inr ⟨by kernel_rfl, rfl⟩, .inr ⟨by kernel_rfl, rfl⟩, .inl ⟨4, by decide, rfl, rfl⟩, trivial⟩ ?_
 refine AL_nil (AW_seq (AW_region rfl ?_))
 refine qm ?_
 refine qp (v := vb true) (PO_fnNil rfl (.inr rfl) un139 rfl rfl) ?_
 refine qm (v := vb true) ?_
 refine gm ?_
 refine qg (v := .agg (eTerm (⟨4, x, e⟩ : Term))) (PO_load rfl ty25 rfl rfl) ?_
 refine qg (v := vb (k4F (⟨4, x, e⟩ : Term))) (PO_call rfl rfl rfl (kind100_ _ (by assumption))) ?_
 refine qk ?_
 refine qa ?_
 refine AL_keep [(0,_),(1,_),(2,_),(3,_)] ⟨rfl,rfl,rfl,rfl,trivial⟩ ?_
 refine AL_nil ?_
 refine AW_ret ?_
 exact ret_le2 (.inl rfl) rfl (by rfl) (.refl _)
theorem may89_5 (x e : ByteArray) (ht : okT (⟨5, x, e⟩ : Term)) : PFn PR (.fn (.func 89) [] []) [.agg (eTerm (⟨5, x, e⟩ : Term))] (.lit (.bool (k5F (⟨5, x, e⟩ : Term)))) := by
 refine PFn_of Go.Proofs.Tryd.func89 rfl (by rfl) Go.Proofs.Tryd.ntmps89 rfl (by simp) fun h => ?_
 refine AW_seq (AW_region rfl ?_)
 refine qp (v := .ip (eTerm (⟨5, x, e⟩ : Term))) (PO_boxA rfl rfl) ?_
 refine qa (v := vb false) ?_
 refine AL_nil (AW_seq ?_)
 refine AW_draw 5 [.im ks23 false kindsEs, .ip (List.drop 0 (eTerm (⟨5, x, e⟩ : Term))), .lit (.int .i64 ((⟨5, x, e⟩ : Term).kind)), .fn (.func 102) [] [], .fn (.func 102) [] []] [(0, .agg (eTerm (⟨5, x, e⟩ : Term))), (1, .ip (eTerm (⟨5, x, e⟩ : Term))), (2, .lit (.bool false)), (3, .fn (.func 102) [] [])] rfl hmixed (by kernel_rfl) rfl (by kernel_rfl) ⟨
  ⟨[], trivial, .inl ⟨rfl, PO_call rfl rfl rfl kinds92_⟩⟩,
  ⟨[(1, .ip (eTerm (⟨5, x, e⟩ : Term)))], ⟨.inr ⟨by kernel_rfl, rfl⟩, trivial⟩, .inl ⟨rfl, PO_fieldAddr rfl f25_0 rfl⟩⟩,
  ⟨[(5, .ip (List.drop 0 (eTerm (⟨5, x, e⟩ : Term))))], ⟨.inl ⟨1, by kernel_rfl, rfl, rfl⟩, trivial⟩, .inl ⟨rfl, PO_load rfl ty23 rfl rfl⟩⟩,
  ⟨[(4, .im ks23 false kindsEs), (6, .lit (.int .i64 ((⟨5, x, e⟩ : Term).kind)))], ⟨.inl ⟨0, by kernel_rfl, rfl, rfl⟩, .inl ⟨2, by kernel_rfl, rfl, rfl⟩, trivial⟩, .inl ⟨rfl, PO_eqA (PO_lookup_im rfl un151 key23 zw139 rfl rfl rfl rfl) (by rfl)⟩⟩,
  ⟨[(7, .fn (.func 102) [] [])], ⟨.inl ⟨3, by kernel_rfl, rfl, rfl⟩, trivial⟩, .inl ⟨rfl, PO_assign rfl rfl⟩⟩,
  trivial⟩ ⟨.inr ⟨by kernel_rfl, rfl⟩, .inr ⟨by kernel_rfl, rfl⟩, .inr ⟨by kernel_rfl, rfl⟩, .inl ⟨4, by decide, rfl, rfl⟩, trivial⟩ ?_
 refine AL_nil (AW_seq (AW_region rfl ?_))
 refine qm ?_
 refine qp (v := vb true) (PO_fnNil rfl (.inr rfl) un139 rfl rfl) ?_
 refine qm (v := vb true) ?_
 refine gm ?_
 refine qg (v := .agg (eTerm (⟨5, x, e⟩ : Term))) (PO_load rfl ty25 rfl rfl) ?_
 refine qg (v := vb (k5F (⟨5, x, e⟩ : Term))) (PO_call rfl rfl rfl (kind102_ _ (by assumption))) ?_
 refine qk ?_
 refine qa ?_
 refine AL_keep [(0,_),(1,_),(2,_),(3,_)] ⟨rfl,rfl,rfl,rfl,trivial⟩ ?_
 refine AL_nil ?_
 refine AW_ret ?_
 exact ret_le2 (.inl rfl) rfl (by rfl) (.refl _)
theorem no_kind {k : Int} (h1 : k ≠ 1) (h2 : k ≠ 2) (h3 : k ≠ 3) (h4 : k ≠ 4) (h5 : k ≠ 5) : alook false (aget [.int .i64 k] kindsEs) zv139 = .lit .nilFunc := by
 simp [kindsEs, aget, vEqs, vEq, h1, h2, h3, h4, h5, alook]
theorem may89_0 (t : Term) (h1 : t.kind ≠ 1) (h2 : t.kind ≠ 2) (h3 : t.kind ≠ 3) (h4 : t.kind ≠ 4) (h5 : t.kind ≠ 5) : PFn PR (.fn (.func 89) [] []) [.agg (eTerm t)] (.lit (.bool false)) := by
 refine PFn_of Go.Proofs.Tryd.func89 rfl (by rfl) Go.Proofs.Tryd.ntmps89 rfl (by simp) fun h => ?_
 refine AW_seq (AW_region rfl ?_)
 refine qp (v := .ip (eTerm t)) (PO_boxA rfl rfl) ?_
 refine qa (v := vb false) ?_
 refine AL_nil (AW_seq ?_)
 refine AW_draw 5 [.im ks23 false kindsEs, .ip (List.drop 0 (eTerm t)), .lit (.int .i64 t.kind), .lit .nilFunc, .lit .nilFunc] [(0, .agg (eTerm t)), (1, .ip (eTerm t)), (2, .lit (.bool false)), (3, .lit .nilFunc)] rfl hmixed (by kernel_rfl) rfl (by kernel_rfl) ⟨
  ⟨[], trivial, .inl ⟨rfl, PO_call rfl rfl rfl kinds92_⟩⟩,
  ⟨[(1, .ip (eTerm t))], ⟨.inr ⟨by kernel_rfl, rfl⟩, trivial⟩, .inl ⟨rfl, PO_fieldAddr rfl f25_0 rfl⟩⟩,
  ⟨[(5, .ip (List.drop 0 (eTerm t)))], ⟨.inl ⟨1, by kernel_rfl, rfl, rfl⟩, trivial⟩, .inl ⟨rfl, PO_load rfl ty23 rfl rfl⟩⟩,
  ⟨[(4, .im ks23 false kindsEs), (6, .lit (.int .i64 t.kind))], ⟨.inl ⟨0, by kernel_rfl, rfl, rfl⟩, .inl ⟨2, by kernel_rfl, rfl, rfl⟩, trivial⟩, .inl ⟨rfl, PO_eqA (PO_lookup_im rfl un151 key23 zw139 rfl rfl rfl rfl) (no_kind h1 h2 h3 h4 h5)⟩⟩,
  ⟨[(7, .lit .nilFunc)], ⟨.inl ⟨3, by kernel_rfl, rfl, rfl⟩, trivial⟩, .inl ⟨rfl, PO_assign rfl rfl⟩⟩,
  trivial⟩ ⟨.inr ⟨by kernel_rfl, rfl⟩, .inr ⟨by kernel_rfl, rfl⟩, .inr ⟨by kernel_rfl, rfl⟩, .inl ⟨4, by decide, rfl, rfl⟩, trivial⟩ ?_
 refine AL_nil (AW_seq (AW_region rfl ?_))
 refine qm ?_
 refine qp (v := vb false) (PO_nilNil rfl (.inr rfl) un139 rfl rfl) ?_
 refine qm (v := vb false) ?_
 refine qz ?_
 refine qz ?_
 refine qz ?_
 refine qk ?_
 refine qa (v := vb false) ?_
 refine AL_keep [(0,_),(1,_),(2,_),(3,_)] ⟨rfl,rfl,rfl,rfl,trivial⟩ ?_
 refine AL_nil ?_
 refine AW_ret ?_
 exact ret_le2 (.inl rfl) rfl (by rfl) (.refl _)
theorem may89_ (t : Term) (ht : okT t) : PFn PR (.fn (.func 89) [] []) [.agg (eTerm t)] (.lit (.bool (termU t))) := by
 obtain ⟨k, x, e⟩ := t
 unfold termU
 simp only
 split
 ·rename_i h; subst h; exact may89_1 x e ht
 ·rename_i h1; split
  ·rename_i h; subst h; exact may89_2 x e ht
  ·rename_i h2; split
   ·rename_i h; subst h; exact may89_3 x e ht
   ·rename_i h3; split
    ·rename_i h; subst h; exact may89_4 x e ht
    ·rename_i h4; split
     ·rename_i h; subst h; exact may89_5 x e ht
     ·rename_i h5; exact may89_0 ⟨k, x, e⟩ h1 h2 h3 h4 h5
end Go.AM.Tryd
end
section
set_option maxRecDepth 100000
set_option linter.unusedVariables false
set_option linter.unusedSimpArgs false
namespace Go.AM.Tryd
open Go Go.AM Go.AM.D
def slotU (s : Slot) : Bool := if s.var ≠ ⟨#[]⟩ then nameF s.var && decide (s.term = t0) else termU s.term
def patU (p : Pat) : Bool := (slotU p.a && slotU p.b) && slotU p.c
def partU2 (l : Lt) : Bool := if l.kind = 1 ∨ l.kind = 2 then (patU l.pat && decide (l.a = s0)) && decide (l.b = s0) else if l.kind = 3 ∨ l.kind = 4 then (decide (l.pat = p0) && slotU l.a) && slotU l.b else false
def mayU (r : Rule) : Bool := (patU r.head && decide ((r.body.length : Int) ≤ 64)) && !(r.body.any fun l => !partU2 l)
theorem slot79_ (s : Slot) (hok : okS s) : PFn PR (.fn (.func 79) [] []) [.agg (eSlot s)] (.lit (.bool (slotU s))) := by
 have h1 := hok.1
 refine PFn_of Go.Proofs.Tryd.func79 rfl (by rfl) Go.Proofs.Tryd.ntmps79 rfl (by simp) fun h => ?_
 refine AW_seq (AW_region rfl ?_)
 refine qp (v := .ip (eSlot s)) (PO_boxA rfl rfl) ?_
 refine qa (v := vb false) ?_
 refine AL_nil (AW_seq (AW_seq (AW_region rfl ?_)))
 refine qp (v := .ip (List.drop 0 (eSlot s))) (PO_fieldAddr rfl f41_0 rfl) ?_
 refine qp (v := vs s.var) (PO_load rfl ty9 rfl rfl) ?_
 refine qp (v := vb (decide (s.var ≠ ⟨#[]⟩))) (PO_str rfl rfl rfl rfl) ?_
 refine AL_keep [(0,_),(1,_),(2,_),(5,_)] ⟨rfl,rfl,rfl,rfl,trivial⟩ ?_
 refine AL_nil ?_
 refine AW_cond _ rfl (fun hc1 => ?_) (fun hc1 => ?_)
 ·replace hc1 := of_decide_eq_true hc1
  refine AW_seq (AW_region rfl ?_)
  refine qp (v := .ip (List.drop 0 (eSlot s))) (PO_fieldAddr rfl f41_0 rfl) ?_
  refine qp (v := vs s.var) (PO_load rfl ty9 rfl rfl) ?_
  refine qp (v := vb (nameF s.var)) (PO_call rfl rfl rfl (name_ _ (by first | assumption | omega))) ?_
  refine qm ?_
  refine AL_jk 5 14 (vb ((nameF s.var) && (decide (s.term = (⟨0, ⟨#[]⟩, ⟨#[]⟩⟩ : Term))))) [(0,_),(1,_),(2,_),(6,_),(7,_),(8,_),(9,_)] ⟨rfl,rfl,rfl,rfl,rfl,rfl,rfl,trivial⟩ ?_ ?_
  ·refine AL_split 9 _ rfl (fun hg9 => ?_) (fun hg9 => ?_)
   ·refine qg (v := .ip (List.drop 1 (eSlot s))) (PO_fieldAddr rfl f41_1 rfl) ?_
    refine qg (v := .agg (eTerm s.term)) (PO_load rfl ty25 rfl rfl) ?_
    refine qg (v := .agg (eTerm (⟨0, ⟨#[]⟩, ⟨#[]⟩⟩ : Term))) (PO_build rfl z25 pl25 rfl rfl) ?_
    refine qg (v := vb (decide (s.term = (⟨0, ⟨#[]⟩, ⟨#[]⟩⟩ : Term)))) (PO_eqv (PO_aggEq rfl eqm25 eg25 rfl rfl rfl rfl rfl rfl) (eTerm_eq _ _)) ?_
    refine qk ?_
    refine AL_say (k := 14) (vb ((nameF s.var) && (decide (s.term = (⟨0, ⟨#[]⟩, ⟨#[]⟩⟩ : Term))))) rfl (by rw [hg9]; rfl) ?_
    refine AL_say (k := 9) (vb (nameF s.var)) rfl (by rw [hg9]) ?_
    exact nl ⟨rfl,rfl,rfl,rfl,rfl,rfl,rfl,rfl,trivial⟩
   ·refine qz ?_
    refine qz ?_
    refine qz ?_
    refine qz ?_
    refine qk ?_
    refine AL_say (k := 14) (vb ((nameF s.var) && (decide (s.term = (⟨0, ⟨#[]⟩, ⟨#[]⟩⟩ : Term))))) rfl (by rw [hg9]; rfl) ?_
    refine AL_say (k := 9) (vb (nameF s.var)) rfl (by rw [hg9]) ?_
    exact nl ⟨rfl,rfl,rfl,rfl,rfl,rfl,rfl,rfl,trivial⟩
  ·refine qa ?_
   refine AL_keep [(0,_),(1,_),(2,_)] ⟨rfl,rfl,rfl,trivial⟩ ?_
   refine AL_nil ?_
   refine AW_ret ?_
   exact ret_le2 (.inl rfl) rfl (by rw [slotU, if_pos hc1]) (.refl _)
 ·replace hc1 := of_decide_eq_false hc1
  refine AW_skip (AW_seq (AW_region rfl ?_))
  refine qp (v := .ip (List.drop 1 (eSlot s))) (PO_fieldAddr rfl f41_1 rfl) ?_
  refine qp (v := .agg (eTerm s.term)) (PO_load rfl ty25 rfl rfl) ?_
  refine qp (v := vb (termU s.term)) (PO_call rfl rfl rfl (may89_ _ (by first | assumption | exact hok.2))) ?_
  refine qa ?_
  refine AL_keep [(0,_),(1,_),(2,_)] ⟨rfl,rfl,rfl,trivial⟩ ?_
  refine AL_nil ?_
  refine AW_ret ?_
  exact ret_le2 (.inl rfl) rfl (by rw [slotU, if_neg hc1]) (.refl _)
theorem pat65_ (p : Pat) (hok : okP p) : PFn PR (.fn (.func 65) [] []) [.agg (ePat p)] (.lit (.bool (patU p))) := by
 refine PFn_of Go.Proofs.Tryd.func65 rfl (by rfl) Go.Proofs.Tryd.ntmps65 rfl (by simp) fun h => ?_
 refine AW_seq (AW_region rfl ?_)
 refine qp (v := .ip (ePat p)) (PO_boxA rfl rfl) ?_
 refine qa (v := vb false) ?_
 refine AL_nil (AW_seq (AW_region rfl ?_))
 refine qp (v := .ip (List.drop (0 * 4) (ePat p))) (PO_indexAddr_arr (i := 0) rfl un43 ty41 rfl rfl (by decide) (by decide)) ?_
 refine qp (v := .agg (eSlot p.a)) (PO_load rfl ty41 rfl rfl) ?_
 refine qp (v := vb (slotU p.a)) (PO_call rfl rfl rfl (slot79_ _ (by first | assumption | exact hok.1 | exact hok.2.1 | exact hok.2.2))) ?_
 refine qm ?_
 refine AL_jk 4 10 (vb ((slotU p.a) && (slotU p.b))) [(0,_),(1,_),(2,_),(3,_),(4,_),(5,_),(6,_)] ⟨rfl,rfl,rfl,rfl,rfl,rfl,rfl,trivial⟩ ?_ ?_
 ·refine AL_split 6 _ rfl (fun hg6 => ?_) (fun hg6 => ?_)
  ·refine qg (v := .ip (List.drop (1 * 4) (ePat p))) (PO_indexAddr_arr (i := 1) rfl un43 ty41 rfl rfl (by decide) (by decide)) ?_
   refine qg (v := .agg (eSlot p.b)) (PO_load rfl ty41 rfl rfl) ?_
   refine qg (v := vb (slotU p.b)) (PO_call rfl rfl rfl (slot79_ _ (by first | assumption | exact hok.1 | exact hok.2.1 | exact hok.2.2))) ?_
   refine qk ?_
   refine AL_say (k := 10) (vb ((slotU p.a) && (slotU p.b))) rfl (by rw [hg6]; rfl) ?_
   refine AL_say (k := 6) (vb (slotU p.a)) rfl (by rw [hg6]) ?_
   exact nl ⟨rfl,rfl,rfl,rfl,rfl,rfl,rfl,rfl,trivial⟩
  ·refine qz ?_
   refine qz ?_
   refine qz ?_
   refine qk ?_
   refine AL_say (k := 10) (vb ((slotU p.a) && (slotU p.b))) rfl (by rw [hg6]; rfl) ?_
   refine AL_say (k := 6) (vb (slotU p.a)) rfl (by rw [hg6]) ?_
   exact nl ⟨rfl,rfl,rfl,rfl,rfl,rfl,rfl,rfl,trivial⟩
 ·refine qm ?_
  refine AL_jk 4 15 (vb (((slotU p.a) && (slotU p.b)) && (slotU p.c))) [(10,_),(0,_),(1,_),(2,_),(3,_),(4,_),(5,_),(6,_),(11,_)] ⟨rfl,rfl,rfl,rfl,rfl,rfl,rfl,rfl,rfl,trivial⟩ ?_ ?_
  ·refine AL_split 11 _ rfl (fun hg11 => ?_) (fun hg11 => ?_)
   ·refine qg (v := .ip (List.drop (2 * 4) (ePat p))) (PO_indexAddr_arr (i := 2) rfl un43 ty41 rfl rfl (by decide) (by decide)) ?_
    refine qg (v := .agg (eSlot p.c)) (PO_load rfl ty41 rfl rfl) ?_
    refine qg (v := vb (slotU p.c)) (PO_call rfl rfl rfl (slot79_ _ (by first | assumption | exact hok.1 | exact hok.2.1 | exact hok.2.2))) ?_
    refine qk ?_
    refine AL_say (k := 15) (vb (((slotU p.a) && (slotU p.b)) && (slotU p.c))) rfl (by rw [hg11]; rfl) ?_
    refine AL_say (k := 11) (vb ((slotU p.a) && (slotU p.b))) rfl (by rw [hg11]) ?_
    exact nl ⟨rfl,rfl,rfl,rfl,rfl,rfl,rfl,rfl,rfl,rfl,trivial⟩
   ·refine qz ?_
    refine qz ?_
    refine qz ?_
    refine qk ?_
    refine AL_say (k := 15) (vb (((slotU p.a) && (slotU p.b)) && (slotU p.c))) rfl (by rw [hg11]; rfl) ?_
    refine AL_say (k := 11) (vb ((slotU p.a) && (slotU p.b))) rfl (by rw [hg11]) ?_
    exact nl ⟨rfl,rfl,rfl,rfl,rfl,rfl,rfl,rfl,rfl,rfl,trivial⟩
  ·refine qa ?_
   refine AL_keep [(0,_),(1,_),(2,_)] ⟨rfl,rfl,rfl,trivial⟩ ?_
   refine AL_nil ?_
   refine AW_ret ?_
   exact ret_le2 (.inl rfl) rfl (by rfl) (.refl _)
theorem part68_ (l : Lt) (hok : okL l) : PFn PR (.fn (.func 68) [] []) [.agg (eLit l)] (.lit (.bool (partU2 l))) := by
 refine PFn_of Go.Proofs.Tryd.func68 rfl (by rfl) Go.Proofs.Tryd.ntmps68 rfl (by simp) fun h => ?_
 refine AW_seq (AW_region rfl ?_)
 refine qp (v := .ip (eLit l)) (PO_boxA rfl rfl) ?_
 refine qa (v := vb false) ?_
 refine AL_nil (AW_seq (AW_seq (AW_region rfl ?_)))
 refine qp (v := .ip (List.drop 0 (eLit l))) (PO_fieldAddr rfl f68_0 rfl) ?_
 refine qp (v := vi l.kind) (PO_load rfl ty66 rfl rfl) ?_
 refine AL_keep [(0,_),(1,_),(2,_),(4,_)] ⟨rfl,rfl,rfl,rfl,trivial⟩ ?_
 refine AL_nil (AW_block (AW_seq (AW_seq (AW_region rfl ?_))))
 refine qp (v := vb (decide ((l.kind : Int) = 1))) pI ?_
 refine qa ?_
 refine AL_keep [(0,_),(1,_),(2,_),(4,_),(5,_)] ⟨rfl,rfl,rfl,rfl,rfl,trivial⟩ ?_
 refine AL_nil ?_
 refine AW_cond _ rfl (fun hc2 => ?_) (fun hc2 => ?_)
 ·replace hc2 := of_decide_eq_true hc2
  refine AW_skip ?_
  refine AW_cond (decide ((l.kind : Int) = 1)) rfl (fun _ => ?_) (fun e => absurd hc2 (of_decide_eq_false e))
  refine AW_seq (AW_region rfl ?_)
  refine qp (v := .ip (List.drop 1 (eLit l))) (PO_fieldAddr rfl f68_1 rfl) ?_
  refine qp (v := .agg (ePat l.pat)) (PO_load rfl ty43 rfl rfl) ?_
  refine qp (v := vb (patU l.pat)) (PO_call rfl rfl rfl (pat65_ _ (by first | assumption | exact hok.1))) ?_
  refine qm ?_
  refine AL_jk 5 16 (vb ((patU l.pat) && (decide (l.a = (⟨⟨#[]⟩, (⟨0, ⟨#[]⟩, ⟨#[]⟩⟩ : Term)⟩ : Slot))))) [(0,_),(1,_),(2,_),(4,_),(5,_),(8,_),(9,_),(10,_),(11,_)] ⟨rfl,rfl,rfl,rfl,rfl,rfl,rfl,rfl,rfl,trivial⟩ ?_ ?_
  ·refine AL_split 11 _ rfl (fun hg11 => ?_) (fun hg11 => ?_)
   ·refine qg (v := .ip (List.drop 13 (eLit l))) (PO_fieldAddr rfl f68_2 rfl) ?_
    refine qg (v := .agg (eSlot l.a)) (PO_load rfl ty41 rfl rfl) ?_
    refine qg (v := .agg (eSlot (⟨⟨#[]⟩, (⟨0, ⟨#[]⟩, ⟨#[]⟩⟩ : Term)⟩ : Slot))) (PO_build rfl z41 pl41 rfl rfl) ?_
    refine qg (v := vb (decide (l.a = (⟨⟨#[]⟩, (⟨0, ⟨#[]⟩, ⟨#[]⟩⟩ : Term)⟩ : Slot)))) (PO_eqv (PO_aggEq rfl eqm41 eg41 rfl rfl rfl rfl rfl rfl) (eSlot_eq _ _)) ?_
    refine qk ?_
    refine AL_say (k := 16) (vb ((patU l.pat) && (decide (l.a = (⟨⟨#[]⟩, (⟨0, ⟨#[]⟩, ⟨#[]⟩⟩ : Term)⟩ : Slot))))) rfl (by rw [hg11]; rfl) ?_
    refine AL_say (k := 11) (vb (patU l.pat)) rfl (by rw [hg11]) ?_
    exact nl ⟨rfl,rfl,rfl,rfl,rfl,rfl,rfl,rfl,rfl,rfl,trivial⟩
   ·refine qz ?_
    refine qz ?_
    refine qz ?_
    refine qz ?_
    refine qk ?_
    refine AL_say (k := 16) (vb ((patU l.pat) && (decide (l.a = (⟨⟨#[]⟩, (⟨0, ⟨#[]⟩, ⟨#[]⟩⟩ : Term)⟩ : Slot))))) rfl (by rw [hg11]; rfl) ?_
    refine AL_say (k := 11) (vb (patU l.pat)) rfl (by rw [hg11]) ?_
    exact nl ⟨rfl,rfl,rfl,rfl,rfl,rfl,rfl,rfl,rfl,rfl,trivial⟩
  ·refine qm ?_
   refine AL_jk 5 22 (vb (((patU l.pat) && (decide (l.a = (⟨⟨#[]⟩, (⟨0, ⟨#[]⟩, ⟨#[]⟩⟩ : Term)⟩ : Slot)))) && (decide (l.b = (⟨⟨#[]⟩, (⟨0, ⟨#[]⟩, ⟨#[]⟩⟩ : Term)⟩ : Slot))))) [(16,_),(0,_),(1,_),(2,_),(4,_),(5,_),(8,_),(9,_),(10,_),(11,_),(17,_)] ⟨rfl,rfl,rfl,rfl,rfl,rfl,rfl,rfl,rfl,rfl,rfl,trivial⟩ ?_ ?_
   ·refine AL_split 17 _ rfl (fun hg17 => ?_) (fun hg17 => ?_)
    ·refine qg (v := .ip (List.drop 17 (eLit l))) (PO_fieldAddr rfl f68_3 rfl) ?_
     refine qg (v := .agg (eSlot l.b)) (PO_load rfl ty41 rfl rfl) ?_
     refine qg (v := .agg (eSlot (⟨⟨#[]⟩, (⟨0, ⟨#[]⟩, ⟨#[]⟩⟩ : Term)⟩ : Slot))) (PO_build rfl z41 pl41 rfl rfl) ?_
     refine qg (v := vb (decide (l.b = (⟨⟨#[]⟩, (⟨0, ⟨#[]⟩, ⟨#[]⟩⟩ : Term)⟩ : Slot)))) (PO_eqv (PO_aggEq rfl eqm41 eg41 rfl rfl rfl rfl rfl rfl) (eSlot_eq _ _)) ?_
     refine qk ?_
     refine AL_say (k := 22) (vb (((patU l.pat) && (decide (l.a = (⟨⟨#[]⟩, (⟨0, ⟨#[]⟩, ⟨#[]⟩⟩ : Term)⟩ : Slot)))) && (decide (l.b = (⟨⟨#[]⟩, (⟨0, ⟨#[]⟩, ⟨#[]⟩⟩ : Term)⟩ : Slot))))) rfl (by rw [hg17]; rfl) ?_
     refine AL_say (k := 17) (vb ((patU l.pat) && (decide (l.a = (⟨⟨#[]⟩, (⟨0, ⟨#[]⟩, ⟨#[]⟩⟩ : Term)⟩ : Slot))))) rfl (by rw [hg17]) ?_
     exact nl ⟨rfl,rfl,rfl,rfl,rfl,rfl,rfl,rfl,rfl,rfl,rfl,rfl,trivial⟩
    ·refine qz ?_
     refine qz ?_
     refine qz ?_
     refine qz ?_
     refine qk ?_
     refine AL_say (k := 22) (vb (((patU l.pat) && (decide (l.a = (⟨⟨#[]⟩, (⟨0, ⟨#[]⟩, ⟨#[]⟩⟩ : Term)⟩ : Slot)))) && (decide (l.b = (⟨⟨#[]⟩, (⟨0, ⟨#[]⟩, ⟨#[]⟩⟩ : Term)⟩ : Slot))))) rfl (by rw [hg17]; rfl) ?_
     refine AL_say (k := 17) (vb ((patU l.pat) && (decide (l.a = (⟨⟨#[]⟩, (⟨0, ⟨#[]⟩, ⟨#[]⟩⟩ : Term)⟩ : Slot))))) rfl (by rw [hg17]) ?_
     exact nl ⟨rfl,rfl,rfl,rfl,rfl,rfl,rfl,rfl,rfl,rfl,rfl,rfl,trivial⟩
   ·refine qa ?_
    refine AL_keep [(0,_),(1,_),(2,_),(4,_),(5,_)] ⟨rfl,rfl,rfl,rfl,rfl,trivial⟩ ?_
    refine AL_nil ?_
    refine AW_ret ?_
    exact ret_le2 (.inl rfl) rfl (by rw [partU2, if_pos (.inl hc2)]) (.refl _)
 ·replace hc2 := of_decide_eq_false hc2
  refine AW_region rfl ?_
  refine qp (v := vb (decide ((l.kind : Int) = 2))) pI ?_
  refine qa ?_
  refine AL_keep [(0,_),(1,_),(2,_),(4,_),(5,_)] ⟨rfl,rfl,rfl,rfl,rfl,trivial⟩ ?_
  refine AL_nil ?_
  refine AW_cond _ rfl (fun hc3 => ?_) (fun hc3 => ?_)
  ·replace hc3 := of_decide_eq_true hc3
   refine AW_seq (AW_region rfl ?_)
   refine qp (v := .ip (List.drop 1 (eLit l))) (PO_fieldAddr rfl f68_1 rfl) ?_
   refine qp (v := .agg (ePat l.pat)) (PO_load rfl ty43 rfl rfl) ?_
   refine qp (v := vb (patU l.pat)) (PO_call rfl rfl rfl (pat65_ _ (by first | assumption | exact hok.1))) ?_
   refine qm ?_
   refine AL_jk 5 16 (vb ((patU l.pat) && (decide (l.a = (⟨⟨#[]⟩, (⟨0, ⟨#[]⟩, ⟨#[]⟩⟩ : Term)⟩ : Slot))))) [(0,_),(1,_),(2,_),(4,_),(5,_),(8,_),(9,_),(10,_),(11,_)] ⟨rfl,rfl,rfl,rfl,rfl,rfl,rfl,rfl,rfl,trivial⟩ ?_ ?_
   ·refine AL_split 11 _ rfl (fun hg11 => ?_) (fun hg11 => ?_)
    ·refine qg (v := .ip (List.drop 13 (eLit l))) (PO_fieldAddr rfl f68_2 rfl) ?_
     refine qg (v := .agg (eSlot l.a)) (PO_load rfl ty41 rfl rfl) ?_
     refine qg (v := .agg (eSlot (⟨⟨#[]⟩, (⟨0, ⟨#[]⟩, ⟨#[]⟩⟩ : Term)⟩ : Slot))) (PO_build rfl z41 pl41 rfl rfl) ?_
     refine qg (v := vb (decide (l.a = (⟨⟨#[]⟩, (⟨0, ⟨#[]⟩, ⟨#[]⟩⟩ : Term)⟩ : Slot)))) (PO_eqv (PO_aggEq rfl eqm41 eg41 rfl rfl rfl rfl rfl rfl) (eSlot_eq _ _)) ?_
     refine qk ?_
     refine AL_say (k := 16) (vb ((patU l.pat) && (decide (l.a = (⟨⟨#[]⟩, (⟨0, ⟨#[]⟩, ⟨#[]⟩⟩ : Term)⟩ : Slot))))) rfl (by rw [hg11]; rfl) ?_
     refine AL_say (k := 11) (vb (patU l.pat)) rfl (by rw [hg11]) ?_
     exact nl ⟨rfl,rfl,rfl,rfl,rfl,rfl,rfl,rfl,rfl,rfl,trivial⟩
    ·refine qz ?_
     refine qz ?_
     refine qz ?_
     refine qz ?_
     refine qk ?_
     refine AL_say (k := 16) (vb ((patU l.pat) && (decide (l.a = (⟨⟨#[]⟩, (⟨0, ⟨#[]⟩, ⟨#[]⟩⟩ : Term)⟩ : Slot))))) rfl (by rw [hg11]; rfl) ?_
     refine AL_say (k := 11) (vb (patU l.pat)) rfl (by rw [hg11]) ?_
     exact nl ⟨rfl,rfl,rfl,rfl,rfl,rfl,rfl,rfl,rfl,rfl,trivial⟩
   ·refine qm ?_
    refine AL_jk 5 22 (vb (((patU l.pat) && (decide (l.a = (⟨⟨#[]⟩, (⟨0, ⟨#[]⟩, ⟨#[]⟩⟩ : Term)⟩ : Slot)))) && (decide (l.b = (⟨⟨#[]⟩, (⟨0, ⟨#[]⟩, ⟨#[]⟩⟩ : Term)⟩ : Slot))))) [(16,_),(0,_),(1,_),(2,_),(4,_),(5,_),(8,_),(9,_),(10,_),(11,_),(17,_)] ⟨rfl,rfl,rfl,rfl,rfl,rfl,rfl,rfl,rfl,rfl,rfl,trivial⟩ ?_ ?_
    ·refine AL_split 17 _ rfl (fun hg17 => ?_) (fun hg17 => ?_)
     ·refine qg (v := .ip (List.drop 17 (eLit l))) (PO_fieldAddr rfl f68_3 rfl) ?_
      refine qg (v := .agg (eSlot l.b)) (PO_load rfl ty41 rfl rfl) ?_
      refine qg (v := .agg (eSlot (⟨⟨#[]⟩, (⟨0, ⟨#[]⟩, ⟨#[]⟩⟩ : Term)⟩ : Slot))) (PO_build rfl z41 pl41 rfl rfl) ?_
      refine qg (v := vb (decide (l.b = (⟨⟨#[]⟩, (⟨0, ⟨#[]⟩, ⟨#[]⟩⟩ : Term)⟩ : Slot)))) (PO_eqv (PO_aggEq rfl eqm41 eg41 rfl rfl rfl rfl rfl rfl) (eSlot_eq _ _)) ?_
      refine qk ?_
      refine AL_say (k := 22) (vb (((patU l.pat) && (decide (l.a = (⟨⟨#[]⟩, (⟨0, ⟨#[]⟩, ⟨#[]⟩⟩ : Term)⟩ : Slot)))) && (decide (l.b = (⟨⟨#[]⟩, (⟨0, ⟨#[]⟩, ⟨#[]⟩⟩ : Term)⟩ : Slot))))) rfl (by rw [hg17]; rfl) ?_
      refine AL_say (k := 17) (vb ((patU l.pat) && (decide (l.a = (⟨⟨#[]⟩, (⟨0, ⟨#[]⟩, ⟨#[]⟩⟩ : Term)⟩ : Slot))))) rfl (by rw [hg17]) ?_
      exact nl ⟨rfl,rfl,rfl,rfl,rfl,rfl,rfl,rfl,rfl,rfl,rfl,rfl,trivial⟩
     ·refine qz ?_
      refine qz ?_
      refine qz ?_
      refine qz ?_
      refine qk ?_
      refine AL_say (k := 22) (vb (((patU l.pat) && (decide (l.a = (⟨⟨#[]⟩, (⟨0, ⟨#[]⟩, ⟨#[]⟩⟩ : Term)⟩ : Slot)))) && (decide (l.b = (⟨⟨#[]⟩, (⟨0, ⟨#[]⟩, ⟨#[]⟩⟩ : Term)⟩ : Slot))))) rfl (by rw [hg17]; rfl) ?_
      refine AL_say (k := 17) (vb ((patU l.pat) && (decide (l.a = (⟨⟨#[]⟩, (⟨0, ⟨#[]⟩, ⟨#[]⟩⟩ : Term)⟩ : Slot))))) rfl (by rw [hg17]) ?_
      exact nl ⟨rfl,rfl,rfl,rfl,rfl,rfl,rfl,rfl,rfl,rfl,rfl,rfl,trivial⟩
    ·refine qa ?_
     refine AL_keep [(0,_),(1,_),(2,_),(4,_),(5,_)] ⟨rfl,rfl,rfl,rfl,rfl,trivial⟩ ?_
     refine AL_nil ?_
     refine AW_ret ?_
     exact ret_le2 (.inl rfl) rfl (by rw [partU2, if_pos (.inr hc3)]) (.refl _)
  ·replace hc3 := of_decide_eq_false hc3
   refine AW_seq (AW_seq (AW_region rfl ?_))
   refine qp (v := vb (decide ((l.kind : Int) = 3))) pI ?_
   refine qa ?_
   refine AL_keep [(0,_),(1,_),(2,_),(4,_),(5,_),(23,_)] ⟨rfl,rfl,rfl,rfl,rfl,rfl,trivial⟩ ?_
   refine AL_nil ?_
   refine AW_cond _ rfl (fun hc5 => ?_) (fun hc5 => ?_)
   ·replace hc5 := of_decide_eq_true hc5
    refine AW_skip ?_
    refine AW_cond (decide ((l.kind : Int) = 3)) rfl (fun _ => ?_) (fun e => absurd hc5 (of_decide_eq_false e))
    refine AW_seq (AW_region rfl ?_)
    refine qp (v := .ip (List.drop 1 (eLit l))) (PO_fieldAddr rfl f68_1 rfl) ?_
    refine qp (v := .agg (ePat l.pat)) (PO_load rfl ty43 rfl rfl) ?_
    refine qp (v := .agg (ePat (⟨(⟨⟨#[]⟩, (⟨0, ⟨#[]⟩, ⟨#[]⟩⟩ : Term)⟩ : Slot), (⟨⟨#[]⟩, (⟨0, ⟨#[]⟩, ⟨#[]⟩⟩ : Term)⟩ : Slot), (⟨⟨#[]⟩, (⟨0, ⟨#[]⟩, ⟨#[]⟩⟩ : Term)⟩ : Slot)⟩ : Pat))) (PO_build_arr rfl z43 un43 ty41 rfl rfl) ?_
    refine qp (v := vb (decide (l.pat = (⟨(⟨⟨#[]⟩, (⟨0, ⟨#[]⟩, ⟨#[]⟩⟩ : Term)⟩ : Slot), (⟨⟨#[]⟩, (⟨0, ⟨#[]⟩, ⟨#[]⟩⟩ : Term)⟩ : Slot), (⟨⟨#[]⟩, (⟨0, ⟨#[]⟩, ⟨#[]⟩⟩ : Term)⟩ : Slot)⟩ : Pat)))) (PO_eqv (PO_aggEq rfl eqm43 eg43 rfl rfl rfl rfl rfl rfl) (ePat_eq _ _)) ?_
    refine qm ?_
    refine AL_jk 4 34 (vb ((decide (l.pat = (⟨(⟨⟨#[]⟩, (⟨0, ⟨#[]⟩, ⟨#[]⟩⟩ : Term)⟩ : Slot), (⟨⟨#[]⟩, (⟨0, ⟨#[]⟩, ⟨#[]⟩⟩ : Term)⟩ : Slot), (⟨⟨#[]⟩, (⟨0, ⟨#[]⟩, ⟨#[]⟩⟩ : Term)⟩ : Slot)⟩ : Pat))) && (slotU l.a))) [(0,_),(1,_),(2,_),(4,_),(5,_),(23,_),(26,_),(27,_),(28,_),(29,_),(30,_)] ⟨rfl,rfl,rfl,rfl,rfl,rfl,rfl,rfl,rfl,rfl,rfl,trivial⟩ ?_ ?_
    ·refine AL_split 30 _ rfl (fun hg30 => ?_) (fun hg30 => ?_)
     ·refine qg (v := .ip (List.drop 13 (eLit l))) (PO_fieldAddr rfl f68_2 rfl) ?_
      refine qg (v := .agg (eSlot l.a)) (PO_load rfl ty41 rfl rfl) ?_
      refine qg (v := vb (slotU l.a)) (PO_call rfl rfl rfl (slot79_ _ (by first | assumption | exact hok.1 | exact hok.2.1 | exact hok.2.2))) ?_
      refine qk ?_
      refine AL_say (k := 34) (vb ((decide (l.pat = (⟨(⟨⟨#[]⟩, (⟨0, ⟨#[]⟩, ⟨#[]⟩⟩ : Term)⟩ : Slot), (⟨⟨#[]⟩, (⟨0, ⟨#[]⟩, ⟨#[]⟩⟩ : Term)⟩ : Slot), (⟨⟨#[]⟩, (⟨0, ⟨#[]⟩, ⟨#[]⟩⟩ : Term)⟩ : Slot)⟩ : Pat))) && (slotU l.a))) rfl (by rw [hg30]; rfl) ?_
      refine AL_say (k := 30) (vb (decide (l.pat = (⟨(⟨⟨#[]⟩, (⟨0, ⟨#[]⟩, ⟨#[]⟩⟩ : Term)⟩ : Slot), (⟨⟨#[]⟩, (⟨0, ⟨#[]⟩, ⟨#[]⟩⟩ : Term)⟩ : Slot), (⟨⟨#[]⟩, (⟨0, ⟨#[]⟩, ⟨#[]⟩⟩ : Term)⟩ : Slot)⟩ : Pat)))) rfl (by rw [hg30]) ?_
      exact nl ⟨rfl,rfl,rfl,rfl,rfl,rfl,rfl,rfl,rfl,rfl,rfl,rfl,trivial⟩
     ·refine qz ?_
      refine qz ?_
      refine qz ?_
      refine qk ?_
      refine AL_say (k := 34) (vb ((decide (l.pat = (⟨(⟨⟨#[]⟩, (⟨0, ⟨#[]⟩, ⟨#[]⟩⟩ : Term)⟩ : Slot), (⟨⟨#[]⟩, (⟨0, ⟨#[]⟩, ⟨#[]⟩⟩ : Term)⟩ : Slot), (⟨⟨#[]⟩, (⟨0, ⟨#[]⟩, ⟨#[]⟩⟩ : Term)⟩ : Slot)⟩ : Pat))) && (slotU l.a))) rfl (by rw [hg30]; rfl) ?_
      refine AL_say (k := 30) (vb (decide (l.pat = (⟨(⟨⟨#[]⟩, (⟨0, ⟨#[]⟩, ⟨#[]⟩⟩ : Term)⟩ : Slot), (⟨⟨#[]⟩, (⟨0, ⟨#[]⟩, ⟨#[]⟩⟩ : Term)⟩ : Slot), (⟨⟨#[]⟩, (⟨0, ⟨#[]⟩, ⟨#[]⟩⟩ : Term)⟩ : Slot)⟩ : Pat)))) rfl (by rw [hg30]) ?_
      exact nl ⟨rfl,rfl,rfl,rfl,rfl,rfl,rfl,rfl,rfl,rfl,rfl,rfl,trivial⟩
    ·refine qm ?_
     refine AL_jk 4 39 (vb (((decide (l.pat = (⟨(⟨⟨#[]⟩, (⟨0, ⟨#[]⟩, ⟨#[]⟩⟩ : Term)⟩ : Slot), (⟨⟨#[]⟩, (⟨0, ⟨#[]⟩, ⟨#[]⟩⟩ : Term)⟩ : Slot), (⟨⟨#[]⟩, (⟨0, ⟨#[]⟩, ⟨#[]⟩⟩ : Term)⟩ : Slot)⟩ : Pat))) && (slotU l.a)) && (slotU l.b))) [(34,_),(0,_),(1,_),(2,_),(4,_),(5,_),(23,_),(26,_),(27,_),(28,_),(29,_),(30,_),(35,_)] ⟨rfl,rfl,rfl,rfl,rfl,rfl,rfl,rfl,rfl,rfl,rfl,rfl,rfl,trivial⟩ ?_ ?_
     ·refine AL_split 35 _ rfl (fun hg35 => ?_) (fun hg35 => ?_)
      ·refine qg (v := .ip (List.drop 17 (eLit l))) (PO_fieldAddr rfl f68_3 rfl) ?_
       refine qg (v := .agg (eSlot l.b)) (PO_load rfl ty41 rfl rfl) ?_
       refine qg (v := vb (slotU l.b)) (PO_call rfl rfl rfl (slot79_ _ (by first | assumption | exact hok.1 | exact hok.2.1 | exact hok.2.2))) ?_
       refine qk ?_
       refine AL_say (k := 39) (vb (((decide (l.pat = (⟨(⟨⟨#[]⟩, (⟨0, ⟨#[]⟩, ⟨#[]⟩⟩ : Term)⟩ : Slot), (⟨⟨#[]⟩, (⟨0, ⟨#[]⟩, ⟨#[]⟩⟩ : Term)⟩ : Slot), (⟨⟨#[]⟩, (⟨0, ⟨#[]⟩, ⟨#[]⟩⟩ : Term)⟩ : Slot)⟩ : Pat))) && (slotU l.a)) && (slotU l.b))) rfl (by rw [hg35]; rfl) ?_
       refine AL_say (k := 35) (vb ((decide (l.pat = (⟨(⟨⟨#[]⟩, (⟨0, ⟨#[]⟩, ⟨#[]⟩⟩ : Term)⟩ : Slot), (⟨⟨#[]⟩, (⟨0, ⟨#[]⟩, ⟨#[]⟩⟩ : Term)⟩ : Slot), (⟨⟨#[]⟩, (⟨0, ⟨#[]⟩, ⟨#[]⟩⟩ : Term)⟩ : Slot)⟩ : Pat))) && (slotU l.a))) rfl (by rw [hg35]) ?_
       exact nl ⟨rfl,rfl,rfl,rfl,rfl,rfl,rfl,rfl,rfl,rfl,rfl,rfl,rfl,rfl,trivial⟩
      ·refine qz ?_
       refine qz ?_
       refine qz ?_
       refine qk ?_
       refine AL_say (k := 39) (vb (((decide (l.pat = (⟨(⟨⟨#[]⟩, (⟨0, ⟨#[]⟩, ⟨#[]⟩⟩ : Term)⟩ : Slot), (⟨⟨#[]⟩, (⟨0, ⟨#[]⟩, ⟨#[]⟩⟩ : Term)⟩ : Slot), (⟨⟨#[]⟩, (⟨0, ⟨#[]⟩, ⟨#[]⟩⟩ : Term)⟩ : Slot)⟩ : Pat))) && (slotU l.a)) && (slotU l.b))) rfl (by rw [hg35]; rfl) ?_
       refine AL_say (k := 35) (vb ((decide (l.pat = (⟨(⟨⟨#[]⟩, (⟨0, ⟨#[]⟩, ⟨#[]⟩⟩ : Term)⟩ : Slot), (⟨⟨#[]⟩, (⟨0, ⟨#[]⟩, ⟨#[]⟩⟩ : Term)⟩ : Slot), (⟨⟨#[]⟩, (⟨0, ⟨#[]⟩, ⟨#[]⟩⟩ : Term)⟩ : Slot)⟩ : Pat))) && (slotU l.a))) rfl (by rw [hg35]) ?_
       exact nl ⟨rfl,rfl,rfl,rfl,rfl,rfl,rfl,rfl,rfl,rfl,rfl,rfl,rfl,rfl,trivial⟩
     ·refine qa ?_
      refine AL_keep [(0,_),(1,_),(2,_),(4,_),(5,_),(23,_)] ⟨rfl,rfl,rfl,rfl,rfl,rfl,trivial⟩ ?_
      refine AL_nil ?_
      refine AW_ret ?_
      exact ret_le2 (.inl rfl) rfl (by rw [partU2, if_neg (fun e => e.elim hc2 hc3), if_pos (.inl hc5)]) (.refl _)
   ·replace hc5 := of_decide_eq_false hc5
    refine AW_region rfl ?_
    refine qp (v := vb (decide ((l.kind : Int) = 4))) pI ?_
    refine qa ?_
    refine AL_keep [(0,_),(1,_),(2,_),(4,_),(5,_),(23,_)] ⟨rfl,rfl,rfl,rfl,rfl,rfl,trivial⟩ ?_
    refine AL_nil ?_
    refine AW_cond _ rfl (fun hc6 => ?_) (fun hc6 => ?_)
    ·replace hc6 := of_decide_eq_true hc6
     refine AW_seq (AW_region rfl ?_)
     refine qp (v := .ip (List.drop 1 (eLit l))) (PO_fieldAddr rfl f68_1 rfl) ?_
     refine qp (v := .agg (ePat l.pat)) (PO_load rfl ty43 rfl rfl) ?_
     refine qp (v := .agg (ePat (⟨(⟨⟨#[]⟩, (⟨0, ⟨#[]⟩, ⟨#[]⟩⟩ : Term)⟩ : Slot), (⟨⟨#[]⟩, (⟨0, ⟨#[]⟩, ⟨#[]⟩⟩ : Term)⟩ : Slot), (⟨⟨#[]⟩, (⟨0, ⟨#[]⟩, ⟨#[]⟩⟩ : Term)⟩ : Slot)⟩ : Pat))) (PO_build_arr rfl z43 un43 ty41 rfl rfl) ?_
     refine qp (v := vb (decide (l.pat = (⟨(⟨⟨#[]⟩, (⟨0, ⟨#[]⟩, ⟨#[]⟩⟩ : Term)⟩ : Slot), (⟨⟨#[]⟩, (⟨0, ⟨#[]⟩, ⟨#[]⟩⟩ : Term)⟩ : Slot), (⟨⟨#[]⟩, (⟨0, ⟨#[]⟩, ⟨#[]⟩⟩ : Term)⟩ : Slot)⟩ : Pat)))) (PO_eqv (PO_aggEq rfl eqm43 eg43 rfl rfl rfl rfl rfl rfl) (ePat_eq _ _)) ?_
     refine qm ?_
     refine AL_jk 4 34 (vb ((decide (l.pat = (⟨(⟨⟨#[]⟩, (⟨0, ⟨#[]⟩, ⟨#[]⟩⟩ : Term)⟩ : Slot), (⟨⟨#[]⟩, (⟨0, ⟨#[]⟩, ⟨#[]⟩⟩ : Term)⟩ : Slot), (⟨⟨#[]⟩, (⟨0, ⟨#[]⟩, ⟨#[]⟩⟩ : Term)⟩ : Slot)⟩ : Pat))) && (slotU l.a))) [(0,_),(1,_),(2,_),(4,_),(5,_),(23,_),(26,_),(27,_),(28,_),(29,_),(30,_)] ⟨rfl,rfl,rfl,rfl,rfl,rfl,rfl,rfl,rfl,rfl,rfl,trivial⟩ ?_ ?_
     ·refine AL_split 30 _ rfl (fun hg30 => ?_) (fun hg30 => ?_)
      ·refine qg (v := .ip (List.drop 13 (eLit l))) (PO_fieldAddr rfl f68_2 rfl) ?_
       refine qg (v := .agg (eSlot l.a)) (PO_load rfl ty41 rfl rfl) ?_
       refine qg (v := vb (slotU l.a)) (PO_call rfl rfl rfl (slot79_ _ (by first | assumption | exact hok.1 | exact hok.2.1 | exact hok.2.2))) ?_
       refine qk ?_
       refine AL_say (k := 34) (vb ((decide (l.pat = (⟨(⟨⟨#[]⟩, (⟨0, ⟨#[]⟩, ⟨#[]⟩⟩ : Term)⟩ : Slot), (⟨⟨#[]⟩, (⟨0, ⟨#[]⟩, ⟨#[]⟩⟩ : Term)⟩ : Slot), (⟨⟨#[]⟩, (⟨0, ⟨#[]⟩, ⟨#[]⟩⟩ : Term)⟩ : Slot)⟩ : Pat))) && (slotU l.a))) rfl (by rw [hg30]; rfl) ?_
       refine AL_say (k := 30) (vb (decide (l.pat = (⟨(⟨⟨#[]⟩, (⟨0, ⟨#[]⟩, ⟨#[]⟩⟩ : Term)⟩ : Slot), (⟨⟨#[]⟩, (⟨0, ⟨#[]⟩, ⟨#[]⟩⟩ : Term)⟩ : Slot), (⟨⟨#[]⟩, (⟨0, ⟨#[]⟩, ⟨#[]⟩⟩ : Term)⟩ : Slot)⟩ : Pat)))) rfl (by rw [hg30]) ?_
       exact nl ⟨rfl,rfl,rfl,rfl,rfl,rfl,rfl,rfl,rfl,rfl,rfl,rfl,trivial⟩
      ·refine qz ?_
       refine qz ?_
       refine qz ?_
       refine qk ?_
       refine AL_say (k := 34) (vb ((decide (l.pat = (⟨(⟨⟨#[]⟩, (⟨0, ⟨#[]⟩, ⟨#[]⟩⟩ : Term)⟩ : Slot), (⟨⟨#[]⟩, (⟨0, ⟨#[]⟩, ⟨#[]⟩⟩ : Term)⟩ : Slot), (⟨⟨#[]⟩, (⟨0, ⟨#[]⟩, ⟨#[]⟩⟩ : Term)⟩ : Slot)⟩ : Pat))) && (slotU l.a))) rfl (by rw [hg30]; rfl) ?_
       refine AL_say (k := 30) (vb (decide (l.pat = (⟨(⟨⟨#[]⟩, (⟨0, ⟨#[]⟩, ⟨#[]⟩⟩ : Term)⟩ : Slot), (⟨⟨#[]⟩, (⟨0, ⟨#[]⟩, ⟨#[]⟩⟩ : Term)⟩ : Slot), (⟨⟨#[]⟩, (⟨0, ⟨#[]⟩, ⟨#[]⟩⟩ : Term)⟩ : Slot)⟩ : Pat)))) rfl (by rw [hg30]) ?_
       exact nl ⟨rfl,rfl,rfl,rfl,rfl,rfl,rfl,rfl,rfl,rfl,rfl,rfl,trivial⟩
     ·refine qm ?_
      refine AL_jk 4 39 (vb (((decide (l.pat = (⟨(⟨⟨#[]⟩, (⟨0, ⟨#[]⟩, ⟨#[]⟩⟩ : Term)⟩ : Slot), (⟨⟨#[]⟩, (⟨0, ⟨#[]⟩, ⟨#[]⟩⟩ : Term)⟩ : Slot), (⟨⟨#[]⟩, (⟨0, ⟨#[]⟩, ⟨#[]⟩⟩ : Term)⟩ : Slot)⟩ : Pat))) && (slotU l.a)) && (slotU l.b))) [(34,_),(0,_),(1,_),(2,_),(4,_),(5,_),(23,_),(26,_),(27,_),(28,_),(29,_),(30,_),(35,_)] ⟨rfl,rfl,rfl,rfl,rfl,rfl,rfl,rfl,rfl,rfl,rfl,rfl,rfl,trivial⟩ ?_ ?_
      ·refine AL_split 35 _ rfl (fun hg35 => ?_) (fun hg35 => ?_)
       ·refine qg (v := .ip (List.drop 17 (eLit l))) (PO_fieldAddr rfl f68_3 rfl) ?_
        refine qg (v := .agg (eSlot l.b)) (PO_load rfl ty41 rfl rfl) ?_
        refine qg (v := vb (slotU l.b)) (PO_call rfl rfl rfl (slot79_ _ (by first | assumption | exact hok.1 | exact hok.2.1 | exact hok.2.2))) ?_
        refine qk ?_
        refine AL_say (k := 39) (vb (((decide (l.pat = (⟨(⟨⟨#[]⟩, (⟨0, ⟨#[]⟩, ⟨#[]⟩⟩ : Term)⟩ : Slot), (⟨⟨#[]⟩, (⟨0, ⟨#[]⟩, ⟨#[]⟩⟩ : Term)⟩ : Slot), (⟨⟨#[]⟩, (⟨0, ⟨#[]⟩, ⟨#[]⟩⟩ : Term)⟩ : Slot)⟩ : Pat))) && (slotU l.a)) && (slotU l.b))) rfl (by rw [hg35]; rfl) ?_
        refine AL_say (k := 35) (vb ((decide (l.pat = (⟨(⟨⟨#[]⟩, (⟨0, ⟨#[]⟩, ⟨#[]⟩⟩ : Term)⟩ : Slot), (⟨⟨#[]⟩, (⟨0, ⟨#[]⟩, ⟨#[]⟩⟩ : Term)⟩ : Slot), (⟨⟨#[]⟩, (⟨0, ⟨#[]⟩, ⟨#[]⟩⟩ : Term)⟩ : Slot)⟩ : Pat))) && (slotU l.a))) rfl (by rw [hg35]) ?_
        exact nl ⟨rfl,rfl,rfl,rfl,rfl,rfl,rfl,rfl,rfl,rfl,rfl,rfl,rfl,rfl,trivial⟩
       ·refine qz ?_
        refine qz ?_
        refine qz ?_
        refine qk ?_
        refine AL_say (k := 39) (vb (((decide (l.pat = (⟨(⟨⟨#[]⟩, (⟨0, ⟨#[]⟩, ⟨#[]⟩⟩ : Term)⟩ : Slot), (⟨⟨#[]⟩, (⟨0, ⟨#[]⟩, ⟨#[]⟩⟩ : Term)⟩ : Slot), (⟨⟨#[]⟩, (⟨0, ⟨#[]⟩, ⟨#[]⟩⟩ : Term)⟩ : Slot)⟩ : Pat))) && (slotU l.a)) && (slotU l.b))) rfl (by rw [hg35]; rfl) ?_
        refine AL_say (k := 35) (vb ((decide (l.pat = (⟨(⟨⟨#[]⟩, (⟨0, ⟨#[]⟩, ⟨#[]⟩⟩ : Term)⟩ : Slot), (⟨⟨#[]⟩, (⟨0, ⟨#[]⟩, ⟨#[]⟩⟩ : Term)⟩ : Slot), (⟨⟨#[]⟩, (⟨0, ⟨#[]⟩, ⟨#[]⟩⟩ : Term)⟩ : Slot)⟩ : Pat))) && (slotU l.a))) rfl (by rw [hg35]) ?_
        exact nl ⟨rfl,rfl,rfl,rfl,rfl,rfl,rfl,rfl,rfl,rfl,rfl,rfl,rfl,rfl,trivial⟩
      ·refine qa ?_
       refine AL_keep [(0,_),(1,_),(2,_),(4,_),(5,_),(23,_)] ⟨rfl,rfl,rfl,rfl,rfl,rfl,trivial⟩ ?_
       refine AL_nil ?_
       refine AW_ret ?_
       exact ret_le2 (.inl rfl) rfl (by rw [partU2, if_neg (fun e => e.elim hc2 hc3), if_pos (.inr hc6)]) (.refl _)
    ·replace hc6 := of_decide_eq_false hc6
     refine AW_skip (AW_seq (AW_region rfl ?_))
     refine qa (v := vb false) ?_
     refine AL_nil ?_
     refine AW_ret ?_
     exact ret_le2 (.inl rfl) rfl (by rw [partU2, if_neg (fun e => e.elim hc2 hc3), if_neg (fun e => e.elim hc5 hc6)]) (.refl _)
theorem notpart67_ (l : Lt) (hok : okL l) : PFn PR (.fn (.func 67) [] []) [.agg (eLit l)] (.lit (.bool (!partU2 l))) := by
 refine PFn_of Go.Proofs.Tryd.func67 rfl (by rfl) Go.Proofs.Tryd.ntmps67 rfl (by simp) fun h => ?_
 refine AW_seq (AW_region rfl ?_)
 refine qp (v := .ip (eLit l)) (PO_boxA rfl rfl) ?_
 refine qa (v := vb false) ?_
 refine AL_nil (AW_seq (AW_region rfl ?_))
 refine qp (v := .agg (eLit l)) (PO_load rfl ty68 rfl rfl) ?_
 refine qp (v := vb (partU2 l)) (PO_call rfl rfl rfl (part68_ _ (by first | assumption))) ?_
 refine qp (v := vb (!(partU2 l))) (PO_not (b := (partU2 l)) rfl rfl) ?_
 refine qa ?_
 refine AL_keep [(0,_),(1,_),(2,_)] ⟨rfl,rfl,rfl,trivial⟩ ?_
 refine AL_nil ?_
 refine AW_ret ?_
 exact ret_le2 (.inl rfl) rfl (by rfl) (.refl _)
theorem may47_ (r : Rule) (hok : okR r) : PFn PR (.fn (.func 47) [] []) [.agg (eRule r)] (.lit (.bool (mayU r))) := by
 refine PFn_of Go.Proofs.Tryd.func47 rfl (by rfl) Go.Proofs.Tryd.ntmps47 rfl (by simp) fun h => ?_
 refine AW_seq (AW_region rfl ?_)
 refine qp (v := .ip (eRule r)) (PO_boxA rfl rfl) ?_
 refine qa (v := vb false) ?_
 refine AL_nil (AW_seq (AW_region rfl ?_))
 refine qp (v := .ip (List.drop 0 (eRule r))) (PO_fieldAddr rfl f46_0 rfl) ?_
 refine qp (v := .agg (ePat r.head)) (PO_load rfl ty43 rfl rfl) ?_
 refine qp (v := vb (patU r.head)) (PO_call rfl rfl rfl (pat65_ _ (by first | assumption | exact hok.1))) ?_
 refine qm ?_
 refine AL_jk 5 11 (vb ((patU r.head) && (decide (((r.body.length : Int) : Int) ≤ 64)))) [(0,_),(1,_),(2,_),(3,_),(4,_),(5,_),(6,_)] ⟨rfl,rfl,rfl,rfl,rfl,rfl,rfl,trivial⟩ ?_ ?_
 ·refine AL_split 6 _ rfl (fun hg6 => ?_) (fun hg6 => ?_)
  ·refine qg (v := .ip (List.drop 12 (eRule r))) (PO_fieldAddr rfl f46_1 rfl) ?_
   refine qg (v := vL r.body) (PO_load rfl ty44 rfl rfl) ?_
   refine qg (v := vi (r.body.length : Int)) (PO_lenM rfl un44 rfl) ?_
   refine qg (v := vb (decide (((r.body.length : Int) : Int) ≤ 64))) pI ?_
   refine qk ?_
   refine AL_say (k := 11) (vb ((patU r.head) && (decide (((r.body.length : Int) : Int) ≤ 64)))) rfl (by rw [hg6]; rfl) ?_
   refine AL_say (k := 6) (vb (patU r.head)) rfl (by rw [hg6]) ?_
   exact nl ⟨rfl,rfl,rfl,rfl,rfl,rfl,rfl,rfl,trivial⟩
  ·refine qz ?_
   refine qz ?_
   refine qz ?_
   refine qz ?_
   refine qk ?_
   refine AL_say (k := 11) (vb ((patU r.head) && (decide (((r.body.length : Int) : Int) ≤ 64)))) rfl (by rw [hg6]; rfl) ?_
   refine AL_say (k := 6) (vb (patU r.head)) rfl (by rw [hg6]) ?_
   exact nl ⟨rfl,rfl,rfl,rfl,rfl,rfl,rfl,rfl,trivial⟩
 ·refine qm ?_
  refine AL_jk 5 17 (vb (((patU r.head) && (decide (((r.body.length : Int) : Int) ≤ 64))) && (!(r.body.any fun l => !partU2 l)))) [(11,_),(0,_),(1,_),(2,_),(3,_),(4,_),(5,_),(6,_),(12,_)] ⟨rfl,rfl,rfl,rfl,rfl,rfl,rfl,rfl,rfl,trivial⟩ ?_ ?_
  ·refine AL_split 12 _ rfl (fun hg12 => ?_) (fun hg12 => ?_)
   ·refine qg (v := .ip (List.drop 12 (eRule r))) (PO_fieldAddr rfl f46_1 rfl) ?_
    refine qg (v := vL r.body) (PO_load rfl ty44 rfl rfl) ?_
    refine qg (v := vb (r.body.any fun l => !partU2 l)) (PO_call rfl rfl rfl (has66_ _ _ _ hok.2.1 (fun x hx => notpart67_ x (hok.2.2 x hx)))) ?_
    refine qg (v := vb (!(r.body.any fun l => !partU2 l))) (PO_not (b := (r.body.any fun l => !partU2 l)) rfl rfl) ?_
    refine qk ?_
    refine AL_say (k := 17) (vb (((patU r.head) && (decide (((r.body.length : Int) : Int) ≤ 64))) && (!(r.body.any fun l => !partU2 l)))) rfl (by rw [hg12]; rfl) ?_
    refine AL_say (k := 12) (vb ((patU r.head) && (decide (((r.body.length : Int) : Int) ≤ 64)))) rfl (by rw [hg12]) ?_
    exact nl ⟨rfl,rfl,rfl,rfl,rfl,rfl,rfl,rfl,rfl,rfl,trivial⟩
   ·refine qz ?_
    refine qz ?_
    refine qz ?_
    refine qz ?_
    refine qk ?_
    refine AL_say (k := 17) (vb (((patU r.head) && (decide (((r.body.length : Int) : Int) ≤ 64))) && (!(r.body.any fun l => !partU2 l)))) rfl (by rw [hg12]; rfl) ?_
    refine AL_say (k := 12) (vb ((patU r.head) && (decide (((r.body.length : Int) : Int) ≤ 64)))) rfl (by rw [hg12]) ?_
    exact nl ⟨rfl,rfl,rfl,rfl,rfl,rfl,rfl,rfl,rfl,rfl,trivial⟩
  ·refine qa ?_
   refine AL_keep [(0,_),(1,_),(2,_)] ⟨rfl,rfl,rfl,trivial⟩ ?_
   refine AL_nil ?_
   refine AW_ret ?_
   exact ret_le2 (.inl rfl) rfl (by rfl) (.refl _)
end Go.AM.Tryd
end
section
set_option linter.unusedVariables false
set_option linter.unusedSimpArgs false
namespace Go.AM
open Go.RowKit
section
variable {P : Program} {ρ : Option Nat} {Q : Exit → AS → Prop} {o : Oper} {ops : Array Oper} {l : List Oper} {n d : Nat} {tm : List (Nat × AV)} {h h0 : Heap} {ms : List Nat} {σ : AS}
theorem AL_storeF {y : Operand} {t : TypeId} {dd : TypeDesc} {m b k : Nat} {cs : List AV} {v : AV} (hg : o.guard = none) (hdst : o.dst = none) (ho : o.op = .store t (.tmp k) y) (ht : TyF P t dd m) (hx : look tm k = some (.ptr b 0)) (hy : ev tm y = some v) (hb : h b = none)
    (h1 : acell1 v = true) (hn : (acells v).length = m) (hle : cs.length = m) (kk : AL P ρ ops l Q ⟨n, (k, .ip (acells v)) :: tm, h, ms, h0⟩) : AL P ρ ops (o :: l) Q ⟨n, tm, h.upd b (some (.row cs)), ms, h0⟩ := by
  refine AL_store hg hdst ho ht hx hy (Heap.upd_same _ _ _) h1 hn (by omega) ?_
  have hset : setCells cs 0 (acells v) = acells v := by
    simp only [setCells, List.take_zero, List.nil_append, Nat.zero_add]
    rw [List.drop_of_length_le (by omega), List.append_nil]
  rw [hset, Heap.upd_upd]
  refine AL_ghost (σ' := ⟨n, (k, .ip (acells v)) :: tm, (h.upd b (some (.row (acells v)))).upd b none, ms, h0⟩) (ghost_freeze (σ := ⟨n, tm, h.upd b (some (.row (acells v))), ms, h0⟩) (b := b) (cs := acells v) (Heap.upd_same _ _ _) ?_) (by rw [Heap.upd_none hb]; exact kk)
  intro q y hq
  rw [look_cons] at hq
  by_cases hqd : k = q
  · rw [if_pos hqd] at hq
    injection hq with hq
    subst hq; subst hqd
    exact ⟨.ptr b 0, hx, by simpa using Frz.ptr (b := b) (cs := acells v) 0⟩
  · rw [if_neg hqd] at hq
    exact ⟨y, hq, .refl _⟩
end
theorem Results.two {P : Program} {fn : Func} {σ : AS} {v u : AV} {c t b off n s : Nat} {d : TypeDesc} {cs : List AV} (hr : fn.results = #[.cell c t, .tmp s]) (ht : TyF P t d n) (hc : look σ.tm c = some (.ptr b off)) (hb : σ.h b = some (.row cs)) (hl : loaded d n (cs.drop off) = some v) (hu : look σ.tm s = some u) : Results P fn σ (.tup [v, u]) := by
  intro g I a w hs w' hw
  have hp := hs.slot c _ hc
  have hs2 := hs.slot s _ hu
  generalize hq : a.tmps.getD c undef = p at hp
  cases hp with
  | ptr =>
    obtain ⟨uu, hcl, hc, hv⟩ := row_cells (hs.wr.obj b _ hb).2 off
    obtain ⟨y, h1, h2⟩ := load_cells (P := P) (I := I) (w := w') ht (ad := ⟨b, off, none⟩) rfl hcl (fun j a e => (hw _ _).trans (hc j a e)) hv hl
    refine ⟨.tuple #[y, a.tmps.getD s undef], ?_, .tup _ _ rfl fun i x hx => ?_⟩
    · rw [results_eq, hr]
      simp [resOne, hq, asAddr, h1]
    · rcases i with _ | _ | i
      · simp at hx; subst hx; exact h2
      · simp at hx; subst hx; exact hs2
      · simp at hx
theorem VR.ip_take {I : Imm} {cs : List AV} {u : Value} (k : Nat) (h : VR I (.ip cs) u) : VR I (.ip (cs.take k)) u := by
  cases h with
  | ip _ ad u hs hcl hc hv =>
    have hg : ∀ j a, (cs.take k)[j]? = some a → cs[j]? = some a := fun j a e => by
      rw [List.getElem?_take] at e; split at e
      · exact e
      · cases e
    exact .ip _ ad u hs (fun a ha => hcl a (List.mem_of_mem_take ha)) (fun j a e => hc j a (hg j a e)) (fun j a e => hv j a (hg j a e))
theorem PO_weak {P : Program} {ρ : Option Nat} {o : Oper} {σ : AS} {v u : AV} (hp : PO P ρ o σ v) (hw : ∀ I x, VR I v x → VR I u x) : PO P ρ o σ u := fun g I a w hs =>
  wpIn_oper_mono (hp g I a w hs) (fun a' w' ⟨I', x, h1, h2, h3, h4⟩ => ⟨I', x, h1, h2, hw _ _ h3, h4⟩) fun _ _ _ h => h
theorem PO_any {P : Program} {ρ : Option Nat} {o : Oper} {σ : AS} {own : Own} {S : Nat} {es es' : List (List AV)} (hp : PO P ρ o σ (.sl own S es)) (e : es = es') : PO P ρ o σ (.sl .any S es') := e ▸ PO_weak hp fun _ _ => VR.any
theorem AL_mapUpdG {P : Program} {ρ : Option Nat} {Q : Exit → AS → Prop} {o : Oper} {ops : Array Oper} {l : List Oper} {n : Nat} {tm : List (Nat × AV)} {h h0 : Heap} {ms : List Nat} {t kt et : TypeId} {m x y : Operand} {b : Nat} {ks : List CK} {agg : Bool} {es : List (List Value × AV)} {kv v : AV} {k : List Value} (hg : o.guard = none) (hdst : o.dst = none) (ho : o.op = .mapUpdate t m x y ∨ o.op = .insert t m x y) (ht : P.underlying t = some (.map kt et)) (hK : KeyF P kt agg ks)
    (hm : ev tm m = some (.mp b)) (hb : h b = some (.map ks agg es)) (hx : ev tm x = some kv) (hkv : akey agg kv = some k) (hk : kOks ks k = true) (hy : ev tm y = some v)
    (kk : AL P ρ ops l Q ⟨n, tm, h.upd b (some (.map ks agg (aput k v es))), ms, h0⟩) : AL P ρ ops (o :: l) Q ⟨n, tm, h, ms, h0⟩ :=
  AL_u hg hdst (MO_mapUpdate ho ht hK hm hb hx hkv hk hy) fun v h' ⟨_, e2⟩ => by subst e2; exact kk
theorem PO_eqA {P : Program} {ρ : Option Nat} {o : Oper} {σ : AS} {v u : AV} (hp : PO P ρ o σ v) (e : v = u) : PO P ρ o σ u := e ▸ hp
theorem vEqs_str (s t : ByteArray) : vEqs [.string s] [.string t] = decide (s = t) := by simp [vEqs, vEq]
theorem aget_aput_str {s t : ByteArray} {v : AV} : ∀ {es : List (List Value × AV)}, (∀ p ∈ es, ∃ q, p.1 = [Value.string q]) → aget [.string s] (aput [.string t] v es) = if s = t then some v else aget [.string s] es
  | [], _ => by simp only [aput, aget, vEqs_str]; by_cases e : s = t <;> simp [e]
  | p :: r, hk => by
    obtain ⟨q, hq⟩ := hk p (List.mem_cons_self ..)
    obtain ⟨p1, p2⟩ := p
    simp only at hq
    subst hq
    have ih := aget_aput_str (s := s) (t := t) (v := v) (es := r) (fun p hp => hk p (List.mem_cons_of_mem _ hp))
    simp only [aput, vEqs_str]
    by_cases e : t = q
    · subst e
      simp only [decide_true, aget, vEqs_str]
      by_cases e2 : s = t <;> simp [e2]
    · simp only [e, decide_false, aget, vEqs_str, ih]
      by_cases e2 : s = q
      · subst e2
        have : ¬ s = t := fun e3 => e e3.symm
        simp [this]
      · simp [e2]
theorem aput_keys {t : ByteArray} {v : AV} : ∀ {es : List (List Value × AV)}, (∀ p ∈ es, ∃ q, p.1 = [Value.string q]) → ∀ p ∈ aput [.string t] v es, ∃ q, p.1 = [Value.string q]
  | [], _ => by intro p hp; simp only [aput, List.mem_singleton] at hp; subst hp; exact ⟨t, rfl⟩
  | x :: r, hk => by
    intro p hp
    simp only [aput] at hp
    split at hp
    · rcases List.mem_cons.1 hp with rfl | hp
      · exact ⟨t, rfl⟩
      · exact hk p (List.mem_cons_of_mem _ hp)
    · rcases List.mem_cons.1 hp with rfl | hp
      · exact hk _ (List.mem_cons_self ..)
      · exact aput_keys (fun p hp => hk p (List.mem_cons_of_mem _ hp)) p hp
end Go.AM
end
section
set_option maxRecDepth 100000
set_option linter.unusedVariables false
set_option linter.unusedSimpArgs false
namespace Go.AM.Tryd
open Go Go.AM Go.AM.D
theorem places_ (r : Rule) : PFn PR (.fn (.func 48) [] []) [.agg (eRule r)] (.fn (.func 69) [] [.ip (eRule r)]) := by
 refine PFn_of Go.Proofs.Tryd.func48 rfl (by rfl) Go.Proofs.Tryd.ntmps48 rfl (by simp) fun h => ?_
 refine AW_seq (AW_region rfl ?_)
 refine qp (v := .ip (eRule r)) (PO_boxA rfl rfl) ?_
 refine qa ?_
 refine AL_nil (AW_seq (AW_region rfl ?_))
 refine qp (v := .fn (.func 69) [] [.ip (eRule r)]) (PO_makeFunc rfl rfl rfl) ?_
 refine qa ?_
 refine AL_keep [(0,_),(1,_),(2,_)] ⟨rfl,rfl,rfl,trivial⟩ ?_
 refine AL_nil ?_
 refine AW_ret ?_
 exact ret_le2 (.inl rfl) rfl (by rfl) (.refl _)
def bodyP : Int → List Lt → List (Int × Slot)
 | _, [] => []
 | i, x :: b => (slotsR x).map (fun s => (i, s)) ++ bodyP (i + 1) b
def headP (p : Pat) : List (Int × Slot) := [(-1, p.a), (-1, p.b), (-1, p.c)]
def placesL (r : Rule) : List (Int × Slot) := headP r.head ++ bodyP 0 r.body
def encP (p : Int × Slot) : List AV := [.lit (.int .i64 p.1), .agg (eSlot p.2)]
theorem headP_drop {p : Pat} {k : Nat} (h : k < 3) : (headP p).drop k = (-1, patAt p k) :: (headP p).drop (k + 1) := by
 rcases k with _ | _ | _ | k <;> first | rfl | omega
theorem drop_app {α : Type} {l m : List α} {k : Nat} (h : k ≤ l.length) : (l ++ m).drop k = l.drop k ++ m := List.drop_append_of_le_length h
theorem next_of {α : Type} {xs : List α} {q : Nat} {x : α} {l : List α} (h : xs.drop q = x :: l) : xs[q]? = some x ∧ q < xs.length ∧ xs.drop (q + 1) = l := by
 have h1 : xs[q]? = some x := by rw [← List.head?_drop, h]; rfl
 exact ⟨h1, (List.getElem?_eq_some_iff.1 h1).1, by rw [← List.tail_drop, h]; rfl⟩
theorem slotsR_pat {x : Lt} (h : (decide (x.kind ≠ 1) && decide (x.kind ≠ 2)) = false) : slotsR x = [x.pat.a, x.pat.b, x.pat.c] := by
 rw [slotsR, if_pos]
 by_cases h1 : x.kind = 1 <;> by_cases h2 : x.kind = 2 <;> simp_all
theorem slotsR_ab {x : Lt} (h : (decide (x.kind ≠ 1) && decide (x.kind ≠ 2)) = true) : slotsR x = [x.a, x.b] := by
 rw [slotsR, if_neg]
 simp only [Bool.and_eq_true, decide_eq_true_eq] at h
 simp [h.1, h.2]
theorem piter_ (r : Rule) (hok : okR r) : AIter PR (.fn (.func 69) [] [.ip (eRule r)]) ((placesL r).map encP) := by
 have hbl := hok.2.1
 intro y J Jx hy hmono h hJ0
 generalize hxs : (placesL r).map encP = xs at hy ⊢
 refine AFn_of Go.Proofs.Tryd.func69 rfl (by rfl) (by rw [Go.Proofs.Tryd.ntmps69]; simp) ?_
 rw [Go.Proofs.Tryd.ntmps69]
 refine AW_seq (AW_seq (AW_region rfl ?_))
 refine qp (v := .ip (List.drop 0 (eRule r))) (PO_fieldAddr rfl f46_0 rfl) ?_
 refine qp (v := .agg (ePat r.head)) (PO_load rfl ty43 rfl rfl) ?_
 refine qm (v := vi 0) ?_
 refine AL_keep [(0,_),(1,_),(11,_),(12,_)] ⟨rfl,rfl,rfl,rfl,trivial⟩ ?_
 refine AL_nil (AW_block ?_)
 refine AW_iter (fun (z_ : Nat × Heap) => match z_ with | (k, hp) => [(12, .lit (.int .i64 ((k : Nat) : Int))), (0, y), (1, .ip (eRule r)), (11, .agg (ePat r.head))]) (fun (z_ : Nat × Heap) => match z_ with | (k, hp) => hp) (fun (z_ : Nat × Heap) => match z_ with | (k, hp) => k ≤ 3 ∧ k ≤ xs.length ∧ J k hp ∧ xs.drop k = (((headP r.head).drop k) ++ bodyP 0 r.body).map encP) (fun (z_ : Nat × Heap) => match z_ with | (k, hp) => 3 - k) ((0, h)) ⟨rfl, rfl, rfl, rfl, trivial⟩ rfl (⟨by omega, by omega, hJ0, hxs.symm⟩) ?_
 rintro ⟨k, hp⟩ ⟨hk, hkx, hJk, hX⟩
 refine AW_seq (AW_region rfl ?_)
 refine qp (v := vb (decide ((((k : Nat) : Int) : Int) < 3))) pI ?_
 refine AL_nil (AW_seq ?_)
 refine AW_cond _ rfl (fun hc1 => ?_) (fun hc1 => ?_)
 ·replace hc1 := of_decide_eq_true hc1
  have hk3 : k < 3 := by omega
  rw [headP_drop hk3, List.cons_append, List.map_cons] at hX
  have hnx := next_of hX
  refine AW_skip (AW_seq (AW_block (AW_seq (AW_region rfl ?_))))
  refine qp (v := .agg (eSlot (patAt r.head k))) (PO_index_arr (i := ((k : Nat) : Int)) rfl un43 ty41 rfl rfl (by omega) (by omega) (by rcases k with _ | _ | _ | k <;> first | rfl | omega)) ?_
  refine AL_als rfl rfl rfl rfl rfl rfl al41 rfl rfl rfl rfl rfl ?_
  refine AL_keep [(12,_),(0,_),(1,_),(11,_),(4,_)] ⟨rfl,rfl,rfl,rfl,rfl,trivial⟩ ?_
  refine AL_nil (AW_seq (AW_region rfl ?_))
  refine qm (v := y) ?_
  refine qp (v := .agg (eSlot (patAt r.head k))) (PO_load rfl ty41 rfl rfl) ?_
  refine AL_m rfl rfl rfl (MO_call rfl rfl rfl (hy k _ hp hnx.1 hJk)) ?_
  rintro _ h1 (⟨rfl, hJ1⟩ | ⟨rfl, hJ1⟩)
  ·refine qp (v := vb false) (PO_not (b := true) rfl rfl) ?_
   refine AL_keep [(12,_),(0,_),(1,_),(11,_),(4,_),(18,_)] ⟨rfl,rfl,rfl,rfl,rfl,rfl,trivial⟩ ?_
   refine AL_nil ?_
   refine AW_cond false rfl (fun e => by cases e) (fun _ => ?_)
   refine AW_skip (AW_region rfl ?_)
   refine qp (v := vn (k + 1)) (PO_inc rfl rfl rfl (by first | omega | simp_all; omega)) ?_
   refine qm ?_
   refine AL_keep [(12,_),(0,_),(1,_),(11,_),(4,_),(18,_)] ⟨rfl,rfl,rfl,rfl,rfl,rfl,trivial⟩ ?_
   refine AL_nil ?_
   exact ⟨(k + 1, h1), ⟨by omega, by omega, hJ1, hnx.2.2⟩, by simp only []; omega, ⟨rfl, ⟨rfl, rfl, rfl, rfl, trivial⟩, rfl, rfl, rfl⟩⟩
  ·refine qp (v := vb true) (PO_not (b := false) rfl rfl) ?_
   refine AL_keep [(12,_),(0,_),(1,_),(11,_),(4,_),(18,_)] ⟨rfl,rfl,rfl,rfl,rfl,rfl,trivial⟩ ?_
   refine AL_nil ?_
   refine AW_cond true rfl (fun _ => ?_) (fun e => by cases e)
   refine AW_ret ?_
   exact ret_R (.inl rfl) rfl ⟨rfl, .inr ⟨k + 1, by omega, hJ1⟩⟩
 ·replace hc1 := of_decide_eq_false hc1
  have hX0 : xs.drop k = (bodyP ((0 : Nat) : Int) (r.body.drop 0)).map encP := by rw [hX, show k = 3 by omega]; rfl
  refine AW_exit ?_
  refine AW_seq (AW_region rfl ?_)
  refine qp (v := .ip (List.drop 12 (eRule r))) (PO_fieldAddr rfl f46_1 rfl) ?_
  refine qp (v := vL r.body) (PO_load rfl ty44 rfl rfl) ?_
  refine qp (v := vi (r.body.length : Int)) (PO_lenM rfl un44 rfl) ?_
  refine qm (v := vi 0) ?_
  refine AL_keep [(12,_),(0,_),(1,_),(11,_),(21,_),(22,_),(23,_)] ⟨rfl,rfl,rfl,rfl,rfl,rfl,rfl,trivial⟩ ?_
  refine AL_nil (AW_block ?_)
  refine AW_iter (fun (z_ : Nat × Nat × Heap) => match z_ with | (i, q, hp2) => [(23, .lit (.int .i64 ((i : Nat) : Int))), (0, y), (21, .sl .any 21 (r.body.map eLit)), (22, .lit (.int .i64 (r.body.length : Int)))]) (fun (z_ : Nat × Nat × Heap) => match z_ with | (i, q, hp2) => hp2) (fun (z_ : Nat × Nat × Heap) => match z_ with | (i, q, hp2) => i ≤ r.body.length ∧ q ≤ xs.length ∧ J q hp2 ∧ xs.drop q = (bodyP ((i : Nat) : Int) (r.body.drop i)).map encP) (fun (z_ : Nat × Nat × Heap) => match z_ with | (i, q, hp2) => r.body.length - i) ((0, k, hp)) ⟨rfl, rfl, rfl, rfl, trivial⟩ rfl (⟨by omega, by omega, hJk, hX0⟩) ?_
  rintro ⟨i, q, hp2⟩ ⟨hi, hq, hJq, hX2⟩
  refine AW_seq (AW_region rfl ?_)
  refine qp (v := vb (decide ((((i : Nat) : Int) : Int) < (r.body.length : Int)))) pI ?_
  refine AL_nil (AW_seq ?_)
  refine AW_cond _ rfl (fun hc6 => ?_) (fun hc6 => ?_)
  ·replace hc6 := of_decide_eq_true hc6
   obtain ⟨x, hrx, hdx, hmx⟩ := drop_at (l := r.body) (i := i) (by omega)
   rw [hdx, bodyP] at hX2
   have hslen := slotsR_len x
   refine AW_skip (AW_seq (AW_block (AW_seq (AW_region rfl ?_))))
   refine qm ?_
   refine qp (v := .ip (eLit x)) (PO_indexAddr rfl un44 ty68 rfl rfl (by first | decide | omega) (mget hrx)) ?_
   refine qp (v := .agg (eLit x)) (PO_load rfl ty68 rfl rfl) ?_
   refine AL_alloc rfl rfl rfl rfl z68 fun b hb => ?_
   refine qa ?_
   refine AL_storeF (v := .agg (eLit x)) rfl rfl rfl ty68 rfl rfl hb rfl rfl rfl ?_
   refine AL_keep [(23,_),(0,_),(21,_),(22,_),(6,_),(5,_)] ⟨rfl,rfl,rfl,rfl,rfl,rfl,trivial⟩ ?_
   refine AL_nil (AW_seq (AW_region rfl ?_))
   refine qp (v := .ip (ePat x.pat)) (PO_weak (PO_fieldAddr rfl f68_1 rfl) (fun _ _ => VR.ip_take 12)) ?_
   refine qp (v := .sl .full 4 ([x.pat.a, x.pat.b, x.pat.c].map eSlot)) (PO_slice_arr (cs := ePat x.pat) rfl un43 ty41 rfl rfl) ?_
   refine qa ?_
   refine AL_keep [(23,_),(0,_),(21,_),(22,_),(6,_),(5,_),(7,_)] ⟨rfl,rfl,rfl,rfl,rfl,rfl,rfl,trivial⟩ ?_
   refine AL_nil ?_
   refine AW_join (α := Unit) (fun _ => [(7, .sl .any 4 ((slotsR x).map eSlot)), (23, .lit (.int .i64 ((i : Nat) : Int))), (0, y), (21, .sl .any 21 (r.body.map eLit)), (22, .lit (.int .i64 (r.body.length : Int))), (5, .lit (.int .i64 ((i : Nat) : Int)))]) (fun _ => hp2) (fun _ => True) ?_ ?_
   ·refine AW_seq (AW_region rfl ?_)
    refine qp (v := .ip (List.drop 0 (eLit x))) (PO_fieldAddr rfl f68_0 rfl) ?_
    refine qp (v := vi x.kind) (PO_load rfl ty66 rfl rfl) ?_
    refine qp (v := vb (decide ((x.kind : Int) ≠ 1))) pI ?_
    refine qm ?_
    refine AL_jk 4 37 (vb ((decide ((x.kind : Int) ≠ 1)) && (decide ((x.kind : Int) ≠ 2)))) [(23,_),(0,_),(21,_),(22,_),(6,_),(5,_),(7,_),(30,_),(31,_),(32,_),(33,_)] ⟨rfl,rfl,rfl,rfl,rfl,rfl,rfl,rfl,rfl,rfl,rfl,trivial⟩ ?_ ?_
    ·refine AL_split 33 _ rfl (fun hg33 => ?_) (fun hg33 => ?_)
     ·refine qg (v := .ip (List.drop 0 (eLit x))) (PO_fieldAddr rfl f68_0 rfl) ?_
      refine qg (v := vi x.kind) (PO_load rfl ty66 rfl rfl) ?_
      refine qg (v := vb (decide ((x.kind : Int) ≠ 2))) pI ?_
      refine qk ?_
      refine AL_say (k := 37) (vb ((decide ((x.kind : Int) ≠ 1)) && (decide ((x.kind : Int) ≠ 2)))) rfl (by rw [hg33]; rfl) ?_
      refine AL_say (k := 33) (vb (decide ((x.kind : Int) ≠ 1))) rfl (by rw [hg33]) ?_
      exact nl ⟨rfl,rfl,rfl,rfl,rfl,rfl,rfl,rfl,rfl,rfl,rfl,rfl,trivial⟩
     ·refine qz ?_
      refine qz ?_
      refine qz ?_
      refine qk ?_
      refine AL_say (k := 37) (vb ((decide ((x.kind : Int) ≠ 1)) && (decide ((x.kind : Int) ≠ 2)))) rfl (by rw [hg33]; rfl) ?_
      refine AL_say (k := 33) (vb (decide ((x.kind : Int) ≠ 1))) rfl (by rw [hg33]) ?_
      exact nl ⟨rfl,rfl,rfl,rfl,rfl,rfl,rfl,rfl,rfl,rfl,rfl,rfl,trivial⟩
    ·refine AL_keep [(37,_),(23,_),(0,_),(21,_),(22,_),(6,_),(5,_),(7,_)] ⟨rfl,rfl,rfl,rfl,rfl,rfl,rfl,rfl,trivial⟩ ?_
     refine AL_nil ?_
     refine AW_cond _ rfl (fun hc9 => ?_) (fun hc9 => ?_)
     ·have hsl := slotsR_ab hc9
      refine AW_region rfl ?_
      refine qp (v := .ip (List.drop 13 (eLit x))) (PO_fieldAddr rfl f68_2 rfl) ?_
      refine qp (v := .agg (eSlot x.a)) (PO_load rfl ty41 rfl rfl) ?_
      refine qp (v := .ip (List.drop 17 (eLit x))) (PO_fieldAddr rfl f68_3 rfl) ?_
      refine qp (v := .agg (eSlot x.b)) (PO_load rfl ty41 rfl rfl) ?_
      refine qp (v := .sl .full 4 ([x.a, x.b].map eSlot)) (PO_buildSlice (n := 2) (S := 4) (rs := eSlot x.a ++ (eSlot x.b ++ [])) rfl un106 ty41 z41 rfl rfl rfl (by decide) rfl (by decide)) ?_
      refine qp (v := .sl .any 4 ((slotsR x).map eSlot)) (PO_any (PO_assign rfl rfl) (by rw [hsl])) ?_
      refine AL_keep [(23,_),(0,_),(21,_),(22,_),(6,_),(5,_),(7,_)] ⟨rfl,rfl,rfl,rfl,rfl,rfl,rfl,trivial⟩ ?_
      refine AL_nil ?_
      exact ⟨(), trivial, ⟨rfl, ⟨rfl, rfl, rfl, rfl, rfl, rfl, trivial⟩, rfl, rfl, rfl⟩⟩
     ·have hsl := slotsR_pat hc9
      refine AW_any (k := 7) rfl ?_
      refine AW_say (k := 7) (.sl .any 4 ((slotsR x).map eSlot)) rfl (by rw [hsl]) ?_
      refine AW_skip ?_
      exact ⟨(), trivial, ⟨rfl, ⟨rfl, rfl, rfl, rfl, rfl, rfl, trivial⟩, rfl, rfl, rfl⟩⟩
   ·rintro _ -
    refine AW_seq (AW_region rfl ?_)
    refine qm ?_
    refine qp (v := vi ((slotsR x).length : Int)) (PO_lenM rfl un106 rfl) ?_
    refine qm (v := vi 0) ?_
    refine AL_nil (AW_block ?_)
    refine AW_iter (fun (z_ : Nat × Nat × Heap) => match z_ with | (m, q2, hp3) => [(45, .lit (.int .i64 ((m : Nat) : Int))), (23, .lit (.int .i64 ((i : Nat) : Int))), (0, y), (21, .sl .any 21 (r.body.map eLit)), (22, .lit (.int .i64 (r.body.length : Int))), (5, .lit (.int .i64 ((i : Nat) : Int))), (43, .sl .any 4 ((slotsR x).map eSlot)), (44, .lit (.int .i64 ((slotsR x).length : Int)))]) (fun (z_ : Nat × Nat × Heap) => match z_ with | (m, q2, hp3) => hp3) (fun (z_ : Nat × Nat × Heap) => match z_ with | (m, q2, hp3) => m ≤ (slotsR x).length ∧ q2 ≤ xs.length ∧ J q2 hp3 ∧ xs.drop q2 = ((((slotsR x).drop m).map fun s => (((i : Nat) : Int), s)) ++ bodyP (((i : Nat) : Int) + 1) (r.body.drop (i + 1))).map encP) (fun (z_ : Nat × Nat × Heap) => match z_ with | (m, q2, hp3) => (slotsR x).length - m) ((0, q, hp2)) ⟨rfl, rfl, rfl, rfl, rfl, rfl, rfl, rfl, trivial⟩ rfl (⟨by omega, by omega, hJq, hX2⟩) ?_
    rintro ⟨m, q2, hp3⟩ ⟨hm, hq2, hJ3, hX3⟩
    refine AW_seq (AW_region rfl ?_)
    refine qp (v := vb (decide ((((m : Nat) : Int) : Int) < ((slotsR x).length : Int)))) pI ?_
    refine AL_nil (AW_seq ?_)
    refine AW_cond _ rfl (fun hc12 => ?_) (fun hc12 => ?_)
    ·replace hc12 := of_decide_eq_true hc12
     obtain ⟨y_, hry, hdy, hmy⟩ := drop_at (l := slotsR x) (i := m) (by omega)
     rw [hdy, List.map_cons, List.cons_append, List.map_cons] at hX3
     have hnx := next_of hX3
     refine AW_skip (AW_seq (AW_block (AW_seq (AW_region rfl ?_))))
     refine qp (v := .ip (eSlot y_)) (PO_indexAddr rfl un106 ty41 rfl rfl (by first | decide | omega) (mget hry)) ?_
     refine qp (v := .agg (eSlot y_)) (PO_load rfl ty41 rfl rfl) ?_
     refine AL_als rfl rfl rfl rfl rfl rfl al41 rfl rfl rfl rfl rfl ?_
     refine AL_keep [(45,_),(23,_),(0,_),(21,_),(22,_),(5,_),(43,_),(44,_),(9,_)] ⟨rfl,rfl,rfl,rfl,rfl,rfl,rfl,rfl,rfl,trivial⟩ ?_
     refine AL_nil (AW_seq (AW_region rfl ?_))
     refine qm (v := y) ?_
     refine qm ?_
     refine qp (v := .agg (eSlot y_)) (PO_load rfl ty41 rfl rfl) ?_
     refine AL_m rfl rfl rfl (MO_call rfl rfl rfl (hy q2 _ hp3 hnx.1 hJ3)) ?_
     rintro _ h1 (⟨rfl, hJ1⟩ | ⟨rfl, hJ1⟩)
     ·refine qp (v := vb false) (PO_not (b := true) rfl rfl) ?_
      refine AL_keep [(45,_),(23,_),(0,_),(21,_),(22,_),(5,_),(43,_),(44,_),(9,_),(53,_)] ⟨rfl,rfl,rfl,rfl,rfl,rfl,rfl,rfl,rfl,rfl,trivial⟩ ?_
      refine AL_nil ?_
      refine AW_cond false rfl (fun e => by cases e) (fun _ => ?_)
      refine AW_skip (AW_region rfl ?_)
      refine qp (v := vn (m + 1)) (PO_inc rfl rfl rfl (by first | omega | simp_all; omega)) ?_
      refine qm ?_
      refine AL_keep [(45,_),(23,_),(0,_),(21,_),(22,_),(5,_),(43,_),(44,_),(9,_),(53,_)] ⟨rfl,rfl,rfl,rfl,rfl,rfl,rfl,rfl,rfl,rfl,trivial⟩ ?_
      refine AL_nil ?_
      exact ⟨(m + 1, q2 + 1, h1), ⟨by omega, by omega, hJ1, hnx.2.2⟩, by simp only []; omega, ⟨rfl, ⟨rfl, rfl, rfl, rfl, rfl, rfl, rfl, rfl, trivial⟩, rfl, rfl, rfl⟩⟩
     ·refine qp (v := vb true) (PO_not (b := false) rfl rfl) ?_
      refine AL_keep [(45,_),(23,_),(0,_),(21,_),(22,_),(5,_),(43,_),(44,_),(9,_),(53,_)] ⟨rfl,rfl,rfl,rfl,rfl,rfl,rfl,rfl,rfl,rfl,trivial⟩ ?_
      refine AL_nil ?_
      refine AW_cond true rfl (fun _ => ?_) (fun e => by cases e)
      refine AW_ret ?_
      exact ret_R (.inl rfl) rfl ⟨rfl, .inr ⟨q2 + 1, by omega, hJ1⟩⟩
    ·replace hc12 := of_decide_eq_false hc12
     rw [drop_end (l := slotsR x) (i := m) (by omega), List.map_nil, List.nil_append] at hX3
     refine AW_exit ?_
     refine AW_region rfl ?_
     refine qp (v := vn (i + 1)) (PO_inc rfl rfl rfl (by first | omega | simp_all; omega)) ?_
     refine qm ?_
     refine AL_keep [(45,_),(23,_),(0,_),(21,_),(22,_),(5,_),(43,_),(44,_)] ⟨rfl,rfl,rfl,rfl,rfl,rfl,rfl,rfl,trivial⟩ ?_
     refine AL_nil ?_
     exact ⟨(i + 1, q2, hp3), ⟨by omega, by omega, hJ3, hX3⟩, by simp only []; omega, ⟨rfl, ⟨rfl, rfl, rfl, rfl, trivial⟩, rfl, rfl, rfl⟩⟩
  ·replace hc6 := of_decide_eq_false hc6
   rw [drop_end (l := r.body) (i := i) (by omega), bodyP] at hX2
   refine AW_exit ?_
   exact ret_R (.inr rfl) rfl ⟨rfl, .inl (by rw [len_done hq hX2]; exact hJq)⟩
end Go.AM.Tryd
end
section
set_option maxRecDepth 100000
set_option linter.unusedVariables false
set_option linter.unusedSimpArgs false
namespace Go.AM.Tryd
open Go Go.AM Go.AM.D
structure One where
 is : Bool
def eOne (o : One) : List AV := [.lit (.bool o.is)]
def litAt (r : Rule) (i : Int) : Lt := (r.body[i.toNat]?).getD ⟨0, p0, s0, s0⟩
def plOf (r : Rule) (i : Nat) : Int × Slot := (placesL r).getD i (0, s0)
def condP (r : Rule) (p : Int × Slot) : Bool := (decide (p.1 ≥ 0) && decide ((litAt r p.1).kind = 1)) && decide (p.2.var ≠ ⟨#[]⟩)
def givP (r : Rule) (i : Nat) : List ByteArray := (((placesL r).take i).filter (condP r)).map (·.2.var)
def checkUL (g : List ByteArray) : List (Int × Slot) → Int
 | [] => 0
 | p :: l => if (decide (p.2.var ≠ ⟨#[]⟩) && !inF p.2.var g) = true then 5 else checkUL g l
def ruleU (r : Rule) : Int := if (!mayU r) = true then 2 else checkUL (givP r (placesL r).length) (placesL r)
theorem bodyP_ok : ∀ (b : List Lt) (i : Int), ∀ p ∈ bodyP i b, i ≤ p.1 ∧ (p.1 - i).toNat < b.length := by
 intro b
 induction b with
 | nil => intro i p hp; cases hp
 | cons x b ih =>
  intro i p hp
  rw [bodyP, List.mem_append] at hp
  rcases hp with hp | hp
  ·rw [List.mem_map] at hp; obtain ⟨s, -, rfl⟩ := hp
   simp only [List.length_cons]; omega
  ·have := ih (i + 1) p hp
   simp only [List.length_cons]; omega
theorem placesL_ok {r : Rule} {p : Int × Slot} (hp : p ∈ placesL r) (h : 0 ≤ p.1) : p.1.toNat < r.body.length := by
 rw [placesL, List.mem_append] at hp
 rcases hp with hp | hp
 ·simp only [headP, List.mem_cons, List.not_mem_nil, or_false] at hp
  rcases hp with rfl | rfl | rfl <;> simp at h
 ·have := bodyP_ok _ _ p hp; simpa using this.2
theorem plOf_mem {r : Rule} {i : Nat} {x : List AV} (h : ((placesL r).map encP)[i]? = some x) : (placesL r)[i]? = some (plOf r i) ∧ x = encP (plOf r i) ∧ plOf r i ∈ placesL r := by
 rw [List.getElem?_map] at h
 cases hq : (placesL r)[i]? with
 | none => rw [hq] at h; cases h
 | some p =>
  rw [hq] at h
  have e : plOf r i = p := by rw [plOf, List.getD_eq_getElem?_getD, hq]; rfl
  rw [e]
  exact ⟨rfl, (Option.some.inj h).symm, List.mem_of_getElem? hq⟩
theorem litAt_get {r : Rule} {i : Int} (h0 : 0 ≤ i) (h : i.toNat < r.body.length) : (r.body.map eLit)[i.toNat]? = some (eLit (litAt r i)) := by
 rw [litAt, List.getElem?_map, List.getElem?_eq_getElem h]; rfl
theorem givP_succ {r : Rule} {i : Nat} (h : (placesL r)[i]? = some (plOf r i)) : givP r (i + 1) = givP r i ++ (if condP r (plOf r i) = true then [(plOf r i).2.var] else []) := by
 rw [givP, List.take_add_one, h, Option.toList_some, List.filter_append, List.map_append, ← givP]
 congr 1
 cases hc : condP r (plOf r i) <;> simp [hc]
def MapIs (g : List ByteArray) (es : List (List Value × AV)) : Prop := (∀ p ∈ es, ∃ q, p.1 = [Value.string q]) ∧ ∀ s, aget [.string s] es = if inF s g = true then some (AV.agg (eOne ⟨true⟩)) else none
theorem inF_snoc (s t : ByteArray) : ∀ g : List ByteArray, inF s (g ++ [t]) = (inF s g || decide (t = s)) := by
 intro g
 induction g with
 | nil => simp only [List.nil_append, inF]; by_cases e : t = s <;> simp [e]
 | cons x g ih => simp only [List.cons_append, inF, ih]; by_cases e : x = s <;> simp [e]
theorem MapIs.nil : MapIs [] [] := ⟨by simp, fun s => by simp [aget, inF]⟩
theorem MapIs.put {g : List ByteArray} {es : List (List Value × AV)} (h : MapIs g es) (t : ByteArray) : MapIs (g ++ [t]) (aput [.string t] (.agg (eOne ⟨true⟩)) es) := by
 refine ⟨aput_keys h.1, fun s => ?_⟩
 rw [aget_aput_str h.1, h.2 s, inF_snoc]
 by_cases e : s = t
 ·subst e; simp
 ·have e' : ¬ t = s := fun h => e h.symm
  simp [e, e']
theorem checkUL_at {g : List ByteArray} {l : List (Int × Slot)} {i : Nat} {p : Int × Slot} (h : l[i]? = some p) : checkUL g (l.drop i) = if (decide (p.2.var ≠ ⟨#[]⟩) && !inF p.2.var g) = true then 5 else checkUL g (l.drop (i + 1)) := by
 obtain ⟨hi, rfl⟩ := List.getElem?_eq_some_iff.1 h
 rw [List.drop_eq_getElem_cons hi]; rfl
theorem urule_ (r : Rule) (hok : okR r) : PFn PR (.fn (.func 35) [] []) [.agg (eRule r)] (.lit (.int .i64 (ruleU r))) := by
 refine PFn_ofG Go.Proofs.Tryd.func35 rfl (by rfl) Go.Proofs.Tryd.ntmps35 rfl (by simp) fun h => ?_
 refine AW_seq (AW_region rfl ?_)
 refine qp (v := .ip (eRule r)) (PO_boxA rfl rfl) ?_
 refine AL_alloc rfl rfl rfl rfl z29 fun b hb => ?_
 have hle00 : h.le (h.upd b (some (.row zs29))) := Heap.le_upd (.refl h) hb _
 refine AL_nil (AW_seq (AW_seq (AW_region rfl ?_)))
 refine qp (v := .agg (eRule r)) (PO_load rfl ty46 rfl rfl) ?_
 refine qp (v := vb (mayU r)) (PO_call rfl rfl rfl (may47_ _ (by first | assumption))) ?_
 refine qp (v := vb (!(mayU r))) (PO_not (b := (mayU r)) rfl rfl) ?_
 refine AL_keep [(0,_),(1,_),(2,_),(10,_)] ⟨rfl,rfl,rfl,rfl,trivial⟩ ?_
 refine AL_nil ?_
 refine AW_cond _ rfl (fun hc1 => ?_) (fun hc1 => ?_)
 ·have hw : ruleU r = 2 := by rw [ruleU, if_pos hc1]
  refine AW_seq (AW_region rfl ?_)
  refine AL_store (b := b) (off := 0) (cs := zs29) (v := .lit (.int .i64 2)) rfl rfl rfl ty29 rfl rfl (Heap.upd_same _ _ _) rfl rfl (by simp) ?_
  refine AL_nil ?_
  refine AW_ret ?_
  exact ret_G (.inl rfl) (Results.cell rfl ty29 rfl (Heap.upd_same _ _ _) rfl) (by rw [hw]) (Heap.le_upd hle00 hb _) (by simp)
 ·have hw : ruleU r = checkUL (givP r (placesL r).length) (placesL r) := by rw [ruleU, if_neg (by rw [hc1]; simp)]
  refine AW_skip (AW_seq (AW_region rfl ?_))
  refine AL_makeMap ks9 false rfl rfl rfl rfl fun bm hbm0 => ?_
  have hbm : h bm = none := Heap.none_of hle00 hbm0
  have hne : bm ≠ b := fun e => by rw [e, Heap.upd_same] at hbm0; cases hbm0
  have hle0 : h.le ((h.upd b (some (.row zs29))).upd bm (some (.map ks9 false []))) := Heap.le_upd hle00 hbm _
  have hrow0 : ((h.upd b (some (.row zs29))).upd bm (some (.map ks9 false []))) b = (some (.row [.lit (.int .i64 0)])) := (Heap.upd_other _ hne.symm _).trans (Heap.upd_same _ _ _)
  have hmap0 : ((h.upd b (some (.row zs29))).upd bm (some (.map ks9 false []))) bm = (some (.map ks9 false [])) := Heap.upd_same _ _ _
  refine AL_als rfl rfl rfl rfl rfl rfl al108 rfl rfl rfl rfl rfl ?_
  refine AL_keep [(0,_),(1,_),(2,_),(3,_)] ⟨rfl,rfl,rfl,rfl,trivial⟩ ?_
  refine AL_nil (AW_seq (AW_seq (AW_region rfl ?_)))
  refine qp (v := .agg (eRule r)) (PO_load rfl ty46 rfl rfl) ?_
  refine qp (v := .fn (.func 69) [] [.ip (eRule r)]) (PO_call rfl rfl rfl (places_ _)) ?_
  refine AL_keep [(0,_),(1,_),(2,_),(3,_),(13,_)] ⟨rfl,rfl,rfl,rfl,rfl,trivial⟩ ?_
  refine AL_nil (AW_block ?_)
  refine AW_rangeF (xs := ((placesL r).map encP)) rfl Go.Proofs.Tryd.func69 rfl (by rfl) (piter_ r hok) (fun i hp => h.le hp ∧ hp b = (some (.row [.lit (.int .i64 0)])) ∧ ∃ es, hp bm = (some (.map ks9 false es)) ∧ MapIs (givP r i) es) (fun _ _ _ => False) (fun i tm => True ∧ Looks tm [(4, .lit (.int .i64 ((plOf r i).1))), (5, .ip (eSlot (plOf r i).2)), (1, .ip (eRule r)), (2, .ptr b 0), (3, .ip [.mp bm])]) rfl (by intro x hx; simp only [List.mem_map] at hx; obtain ⟨p, -, rfl⟩ := hx; rfl) ⟨hle0, hrow0, [], hmap0, MapIs.nil⟩ ?_ ?_ ?_ ?_ ?_ ?_
  ·intro l_ hl i h1 h2 hJ hst
   obtain ⟨h3, h4, es, h5, h6⟩ := hJ
   exact ⟨Steady.le (Heap.none_of hle0 hl) h3 hst, hst.at h4 rfl, es, hst.at h5 rfl, h6⟩
  ·intro l_ hl e i h1 h2 hJ hst
   exact hJ
  ·intro l_ i x hr hx hJ
   obtain ⟨hp, rfl, hmem⟩ := plOf_mem hx
   refine AW_keep [(14, .lit (.int .i64 ((plOf r i).1))), (15, .agg (eSlot (plOf r i).2)), (0, .agg (eRule r)), (1, .ip (eRule r)), (2, .ptr b 0), (3, .ip [.mp bm]), (13, .fn (.func 69) [] [.ip (eRule r)])] ⟨rfl, rfl, rfl, rfl, rfl, rfl, rfl, trivial⟩ ?_
   refine AW_seq (AW_region rfl ?_)
   refine qa ?_
   refine AL_nil (AW_region rfl ?_)
   refine AL_als rfl rfl rfl rfl rfl rfl al41 rfl rfl rfl rfl rfl ?_
   refine AL_nil ?_
   exact ⟨rfl, rfl, rfl, .refl _, hJ, trivial, ⟨rfl, rfl, rfl, rfl, rfl, trivial⟩⟩
  ·intro l_ i x hr tm hx hJ hA
   obtain ⟨hA, hL⟩ := hA
   refine AW_ghost (Looks.sub hL).ghost ?_
   clear hL
   obtain ⟨hle, hrow, es, hmap, hes⟩ := hJ
   obtain ⟨hp, -, hmem⟩ := plOf_mem hx
   have hin := placesL_ok hmem
   have hgs := givP_succ hp
   refine AW_block (AW_seq (AW_region rfl ?_))
   refine qm ?_
   refine qp (v := vb (decide (((plOf r i).1 : Int) ≥ 0))) pI ?_
   refine qm ?_
   refine AL_jk 8 26 (vb ((decide (((plOf r i).1 : Int) ≥ 0)) && (decide (((litAt r (plOf r i).1).kind : Int) = 1)))) [(4,_),(5,_),(1,_),(2,_),(3,_),(16,_),(17,_),(18,_)] ⟨rfl,rfl,rfl,rfl,rfl,rfl,rfl,rfl,trivial⟩ ?_ ?_
   ·refine AL_split 18 _ rfl (fun hg18 => ?_) (fun hg18 => ?_)
    ·have hge := of_decide_eq_true hg18
     refine qg (v := .ip (List.drop 12 (eRule r))) (PO_fieldAddr rfl f46_1 rfl) ?_
     refine qg (v := vL r.body) (PO_load rfl ty44 rfl rfl) ?_
     refine gm ?_
     refine qg (v := .ip (eLit (litAt r (plOf r i).1))) (PO_indexAddr rfl un44 ty68 rfl rfl (by first | decide | omega) (litAt_get (by omega) (hin (by omega)))) ?_
     refine qg (v := .ip (List.drop 0 (eLit (litAt r (plOf r i).1)))) (PO_fieldAddr rfl f68_0 rfl) ?_
     refine qg (v := vi ((litAt r (plOf r i).1).kind)) (PO_load rfl ty66 rfl rfl) ?_
     refine qg (v := vb (decide (((litAt r (plOf r i).1).kind : Int) = 1))) pI ?_
     refine qk ?_
     refine AL_say (k := 26) (vb ((decide (((plOf r i).1 : Int) ≥ 0)) && (decide (((litAt r (plOf r i).1).kind : Int) = 1)))) rfl (by rw [hg18]; rfl) ?_
     refine AL_say (k := 18) (vb (decide (((plOf r i).1 : Int) ≥ 0))) rfl (by rw [hg18]) ?_
     exact nl ⟨rfl,rfl,rfl,rfl,rfl,rfl,rfl,rfl,rfl,trivial⟩
    ·refine qz ?_
     refine qz ?_
     refine qz ?_
     refine qz ?_
     refine qz ?_
     refine qz ?_
     refine qz ?_
     refine qk ?_
     refine AL_say (k := 26) (vb ((decide (((plOf r i).1 : Int) ≥ 0)) && (decide (((litAt r (plOf r i).1).kind : Int) = 1)))) rfl (by rw [hg18]; rfl) ?_
     refine AL_say (k := 18) (vb (decide (((plOf r i).1 : Int) ≥ 0))) rfl (by rw [hg18]) ?_
     exact nl ⟨rfl,rfl,rfl,rfl,rfl,rfl,rfl,rfl,rfl,trivial⟩
   ·refine qm ?_
    refine AL_jk 4 31 (vb (((decide (((plOf r i).1 : Int) ≥ 0)) && (decide (((litAt r (plOf r i).1).kind : Int) = 1))) && (decide (((plOf r i).2).var ≠ ⟨#[]⟩)))) [(26,_),(4,_),(5,_),(1,_),(2,_),(3,_),(16,_),(17,_),(18,_),(27,_)] ⟨rfl,rfl,rfl,rfl,rfl,rfl,rfl,rfl,rfl,rfl,trivial⟩ ?_ ?_
    ·refine AL_split 27 _ rfl (fun hg27 => ?_) (fun hg27 => ?_)
     ·refine qg (v := .ip (List.drop 0 (eSlot (plOf r i).2))) (PO_fieldAddr rfl f41_0 rfl) ?_
      refine qg (v := vs (((plOf r i).2).var)) (PO_load rfl ty9 rfl rfl) ?_
      refine qg (v := vb (decide (((plOf r i).2).var ≠ ⟨#[]⟩))) (PO_str rfl rfl rfl rfl) ?_
      refine qk ?_
      refine AL_say (k := 31) (vb (((decide (((plOf r i).1 : Int) ≥ 0)) && (decide (((litAt r (plOf r i).1).kind : Int) = 1))) && (decide (((plOf r i).2).var ≠ ⟨#[]⟩)))) rfl (by rw [hg27]; rfl) ?_
      refine AL_say (k := 27) (vb ((decide (((plOf r i).1 : Int) ≥ 0)) && (decide (((litAt r (plOf r i).1).kind : Int) = 1)))) rfl (by rw [hg27]) ?_
      exact nl ⟨rfl,rfl,rfl,rfl,rfl,rfl,rfl,rfl,rfl,rfl,rfl,trivial⟩
     ·refine qz ?_
      refine qz ?_
      refine qz ?_
      refine qk ?_
      refine AL_say (k := 31) (vb (((decide (((plOf r i).1 : Int) ≥ 0)) && (decide (((litAt r (plOf r i).1).kind : Int) = 1))) && (decide (((plOf r i).2).var ≠ ⟨#[]⟩)))) rfl (by rw [hg27]; rfl) ?_
      refine AL_say (k := 27) (vb ((decide (((plOf r i).1 : Int) ≥ 0)) && (decide (((litAt r (plOf r i).1).kind : Int) = 1)))) rfl (by rw [hg27]) ?_
      exact nl ⟨rfl,rfl,rfl,rfl,rfl,rfl,rfl,rfl,rfl,rfl,rfl,trivial⟩
    ·refine AL_keep [(31,_),(4,_),(5,_),(1,_),(2,_),(3,_)] ⟨rfl,rfl,rfl,rfl,rfl,rfl,trivial⟩ ?_
     refine AL_nil ?_
     refine AW_cond _ rfl (fun hc7 => ?_) (fun hc7 => ?_)
     ·have hcond : condP r (plOf r i) = true := hc7
      refine AW_region rfl ?_
      refine qp (v := .mp bm) (PO_load rfl ty108 rfl rfl) ?_
      refine qp (v := .ip (List.drop 0 (eSlot (plOf r i).2))) (PO_fieldAddr rfl f41_0 rfl) ?_
      refine qp (v := vs (((plOf r i).2).var)) (PO_load rfl ty9 rfl rfl) ?_
      refine qp (v := .agg (eOne (⟨true⟩ : One))) (PO_build rfl z112 pl112 rfl rfl) ?_
      refine AL_mapUpdG (b := bm) (es := es) (v := .agg (eOne ⟨true⟩)) rfl rfl (.inl rfl) un108 key9 rfl hmap rfl rfl rfl rfl ?_
      refine AL_keep [(4,_),(5,_),(1,_),(2,_),(3,_)] ⟨rfl,rfl,rfl,rfl,rfl,trivial⟩ ?_
      refine AL_nil ?_
      first | exact ⟨⟨Heap.le_upd hle hbm _, (Heap.upd_other _ hne.symm _).trans hrow, _, Heap.upd_same _ _ _, by rw [hgs, if_pos hcond]; exact hes.put _⟩, rfl⟩ | exact ⟨⟨hle, hrow, es, hmap, by rw [hgs, if_neg (by rw [hcond]; simp), List.append_nil]; exact hes⟩, rfl⟩
     ·have hcond : condP r (plOf r i) = false := hc7
      refine AW_skip ?_
      first | exact ⟨⟨Heap.le_upd hle hbm _, (Heap.upd_other _ hne.symm _).trans hrow, _, Heap.upd_same _ _ _, by rw [hgs, if_pos hcond]; exact hes.put _⟩, rfl⟩ | exact ⟨⟨hle, hrow, es, hmap, by rw [hgs, if_neg (by rw [hcond]; simp), List.append_nil]; exact hes⟩, rfl⟩
  ·intro hd r_ hr0 hmark hJ
   obtain ⟨hle, hrow, es, hmap, hes⟩ := hJ
   rw [List.length_map] at hes
   have hrn := Heap.none_of hle0 hr0
   refine AW_seq (AW_seq (AW_region rfl ?_))
   refine qp (v := .agg (eRule r)) (PO_load rfl ty46 rfl rfl) ?_
   refine qp (v := .fn (.func 69) [] [.ip (eRule r)]) (PO_call rfl rfl rfl (places_ _)) ?_
   refine AL_keep [(0,_),(1,_),(2,_),(3,_),(13,_),(37,_)] ⟨rfl,rfl,rfl,rfl,rfl,rfl,trivial⟩ ?_
   refine AL_nil (AW_block ?_)
   refine AW_rangeF (xs := ((placesL r).map encP)) rfl Go.Proofs.Tryd.func69 rfl (by rfl) (piter_ r hok) (fun i hp => h.le hp ∧ hp b = (some (.row [.lit (.int .i64 0)])) ∧ hp bm = (some (.map ks9 false es)) ∧ ruleU r = checkUL (givP r (placesL r).length) ((placesL r).drop i)) (fun e _ hp => e = .ret ∧ h.le hp ∧ hp b = (some (.row [.lit (.int .i64 5)])) ∧ ruleU r = 5) (fun i tm => True ∧ Looks tm [(7, .ip (eSlot (plOf r i).2)), (2, .ptr b 0), (3, .ip [.mp bm])]) rfl (by intro x hx; simp only [List.mem_map] at hx; obtain ⟨p, -, rfl⟩ := hx; rfl) ⟨hle, hrow, hmap, hw⟩ ?_ ?_ ?_ ?_ ?_ ?_
   ·intro l_ hl i h1 h2 hJ hst
    obtain ⟨h3, h4, h5, h6⟩ := hJ
    exact ⟨Steady.le (Heap.none_of hle hl) h3 hst, hst.at h4 rfl, hst.at h5 rfl, h6⟩
   ·intro l_ hl e i h1 h2 hJ hst
    exact ⟨hJ.1, Steady.le (Heap.none_of hle hl) hJ.2.1 hst, hst.at hJ.2.2.1 rfl, hJ.2.2.2⟩
   ·intro l_ i x hr hx hJ
    obtain ⟨hp, rfl, hmem⟩ := plOf_mem hx
    refine AW_keep [(38, .lit (.int .i64 ((plOf r i).1))), (39, .agg (eSlot (plOf r i).2)), (0, .agg (eRule r)), (1, .ip (eRule r)), (2, .ptr b 0), (3, .ip [.mp bm]), (13, .fn (.func 69) [] [.ip (eRule r)]), (37, .fn (.func 69) [] [.ip (eRule r)])] ⟨rfl, rfl, rfl, rfl, rfl, rfl, rfl, rfl, trivial⟩ ?_
    refine AW_region rfl ?_
    refine AL_als rfl rfl rfl rfl rfl rfl al41 rfl rfl rfl rfl rfl ?_
    refine AL_nil ?_
    exact ⟨rfl, rfl, rfl, .refl _, hJ, trivial, ⟨rfl, rfl, rfl, trivial⟩⟩
   ·intro l_ i x hr tm hx hJ hA
    obtain ⟨hA, hL⟩ := hA
    refine AW_ghost (Looks.sub hL).ghost ?_
    clear hL
    obtain ⟨hle2, hrow2, hmap2, hS⟩ := hJ
    obtain ⟨hp, -, hmem⟩ := plOf_mem hx
    rw [checkUL_at hp] at hS
    refine AW_block (AW_seq (AW_region rfl ?_))
    refine qp (v := .ip (List.drop 0 (eSlot (plOf r i).2))) (PO_fieldAddr rfl f41_0 rfl) ?_
    refine qp (v := vs (((plOf r i).2).var)) (PO_load rfl ty9 rfl rfl) ?_
    refine qp (v := vb (decide (((plOf r i).2).var ≠ ⟨#[]⟩))) (PO_str rfl rfl rfl rfl) ?_
    refine qm ?_
    refine AL_jk 7 50 (vb ((decide (((plOf r i).2).var ≠ ⟨#[]⟩)) && (!(inF (plOf r i).2.var (givP r (placesL r).length))))) [(7,_),(2,_),(3,_),(40,_),(41,_),(42,_),(43,_)] ⟨rfl,rfl,rfl,rfl,rfl,rfl,rfl,trivial⟩ ?_ ?_
    ·refine AL_split 43 _ rfl (fun hg43 => ?_) (fun hg43 => ?_)
     ·refine qg (v := .mp bm) (PO_load rfl ty108 rfl rfl) ?_
      refine qg (v := .ip (List.drop 0 (eSlot (plOf r i).2))) (PO_fieldAddr rfl f41_0 rfl) ?_
      refine qg (v := vs (((plOf r i).2).var)) (PO_load rfl ty9 rfl rfl) ?_
      refine qg (v := .agg (eOne ⟨inF (plOf r i).2.var (givP r (placesL r).length)⟩)) (PO_eqA (PO_lookup rfl un108 key9 zw112 rfl hmap2 rfl rfl rfl) (by rw [hes.2]; cases hq : inF (plOf r i).2.var (givP r (placesL r).length) <;> simp [hq, alook, eOne])) ?_
      refine qg (v := vb (inF (plOf r i).2.var (givP r (placesL r).length))) (PO_field rfl f112_0 ty4 rfl rfl) ?_
      refine qg (v := vb (!(inF (plOf r i).2.var (givP r (placesL r).length)))) (PO_not (b := (inF (plOf r i).2.var (givP r (placesL r).length))) rfl rfl) ?_
      refine qk ?_
      refine AL_say (k := 50) (vb ((decide (((plOf r i).2).var ≠ ⟨#[]⟩)) && (!(inF (plOf r i).2.var (givP r (placesL r).length))))) rfl (by rw [hg43]; rfl) ?_
      refine AL_say (k := 43) (vb (decide (((plOf r i).2).var ≠ ⟨#[]⟩))) rfl (by rw [hg43]) ?_
      exact nl ⟨rfl,rfl,rfl,rfl,rfl,rfl,rfl,rfl,trivial⟩
     ·refine qz ?_
      refine qz ?_
      refine qz ?_
      refine qz ?_
      refine qz ?_
      refine qz ?_
      refine qk ?_
      refine AL_say (k := 50) (vb ((decide (((plOf r i).2).var ≠ ⟨#[]⟩)) && (!(inF (plOf r i).2.var (givP r (placesL r).length))))) rfl (by rw [hg43]; rfl) ?_
      refine AL_say (k := 43) (vb (decide (((plOf r i).2).var ≠ ⟨#[]⟩))) rfl (by rw [hg43]) ?_
      exact nl ⟨rfl,rfl,rfl,rfl,rfl,rfl,rfl,rfl,trivial⟩
    ·refine AL_keep [(50,_),(7,_),(2,_),(3,_)] ⟨rfl,rfl,rfl,rfl,trivial⟩ ?_
     refine AL_nil ?_
     refine AW_cond _ rfl (fun hc11 => ?_) (fun hc11 => ?_)
     ·rw [if_pos hc11] at hS
      refine AW_seq (AW_region rfl ?_)
      refine AL_store (b := b) (off := 0) (cs := [.lit (.int .i64 0)]) (v := .lit (.int .i64 5)) rfl rfl rfl ty29 rfl rfl hrow2 rfl rfl (by simp) ?_
      refine AL_nil ?_
      refine AW_ret ?_
      exact ⟨⟨rfl, Heap.le_upd hle2 hb _, (Heap.upd_same _ _ _).trans rfl, hS⟩, rfl⟩
     ·rw [if_neg (by rw [hc11]; simp)] at hS
      refine AW_skip ?_
      exact ⟨⟨hle2, hrow2, hmap2, hS⟩, rfl⟩
   ·intro hd1 r1_ hr0 hmark hJ
    obtain ⟨hle2, hrow2, hmap2, hS⟩ := hJ
    rw [List.length_map, List.drop_of_length_le (Nat.le_refl _), checkUL] at hS
    have hrn1 := Heap.none_of hle hr0
    refine AW_seq (AW_region rfl ?_)
    refine AL_store (b := b) (off := 0) (cs := [.lit (.int .i64 0)]) (v := .lit (.int .i64 0)) rfl rfl rfl ty29 rfl rfl hrow2 rfl rfl (by simp) ?_
    refine AL_nil ?_
    refine AW_ret ?_
    exact ret_G (.inl rfl) (Results.cell rfl ty29 rfl (Heap.upd_same _ _ _) rfl) (by rw [hS]) (Heap.le_upd hle2 hb _) (by simpa using ⟨hrn1, hrn⟩)
   ·intro e i hd1 r1_ hr0 hmark hc hJx
    obtain ⟨rfl, hle2, hrow2, hS⟩ := hJx
    have hrn1 := Heap.none_of hle hr0
    exact ret_G (.inl rfl) (Results.cell rfl ty29 rfl hrow2 rfl) (by rw [hS]) hle2 (by simpa using ⟨hrn1, hrn⟩)
  ·intro e i hd r_ hr0 hmark hc hJx
   exact hJx.elim
end Go.AM.Tryd
end
section
set_option maxRecDepth 100000
set_option linter.unusedVariables false
set_option linter.unusedSimpArgs false
namespace Go.AM.Tryd
open Go Go.AM Go.AM.D
structure Mode where
 eq : Bool
def eMode (o : Mode) : List AV := [.lit (.bool o.eq)]
def firstB : List Rule → Int
 | [] => 0
 | r :: l => if ruleU r ≠ 0 then ruleU r else firstB l
def nvB : List Lt → Bool
 | [] => false
 | x :: b => if (decide (x.kind = 2) && decide (x.pat.b.var ≠ ⟨#[]⟩)) = true then true else nvB b
def progS (all : List Rule) (not : Bool) : Nat → List Rule → Int → Int
 | _, [], bad => bad
 | i, r :: l, bad => if (not && decide (r.head.b.var ≠ ⟨#[]⟩)) = true then 5 else if nvB r.body = true then 5 else progS all not (i + 1) l (if (decide (bad = 0) && (all.take i).any (fun o => sameP o r)) = true then 8 else bad)
def progU (l : List Rule) : Int := if firstB l ≠ 0 then firstB l else if progS l (negF l) 0 l 0 ≠ 0 then progS l (negF l) 0 l 0 else if (l.length : Int) > 1000 then 9 else 0
def modeU (l : List Rule) : Bool := if progU l ≠ 0 then false else !(negF l)
theorem firstB_step {l : List Rule} (h : firstB l = 0) : progU l = if progS l (negF l) 0 l 0 ≠ 0 then progS l (negF l) 0 l 0 else if (l.length : Int) > 1000 then 9 else 0 := by
 rw [progU, if_neg (by simp [h])]
theorem uprog_ (l : List Rule) (hl : okRs l) : PFn PR (.fn (.func 22) [] []) [.sl .any 13 (l.map eRule)] (.tup [.agg (eMode ⟨modeU l⟩), .lit (.int .i64 (progU l))]) := by
 have hl1 := hl.1
 refine PFn_ofG Go.Proofs.Tryd.func22 rfl (by rfl) Go.Proofs.Tryd.ntmps22 rfl (by simp) fun h => ?_
 refine AW_seq (AW_region rfl ?_)
 refine AL_alloc rfl rfl rfl rfl z72 fun b hb => ?_
 have hle0 : h.le (h.upd b (some (.row zs72))) := Heap.le_upd (.refl h) hb _
 refine qa (v := vi 0) ?_
 refine AL_nil ?_
 refine AW_scope (l := 0) (fun _ => False) rfl ?_ (fun _ hF => hF.elim)
 refine AW_seq (AW_seq (AW_region rfl ?_))
 refine qm ?_
 refine qp (v := vi (l.length : Int)) (PO_lenM rfl un22 rfl) ?_
 refine qm (v := vi 0) ?_
 refine AL_nil (AW_block ?_)
 refine AW_iter (fun (i : Nat) => [(15, .lit (.int .i64 ((i : Nat) : Int))), (0, .sl .any 13 (l.map eRule)), (2, .ptr b 0), (3, .lit (.int .i64 0)), (13, .sl .any 13 (l.map eRule)), (14, .lit (.int .i64 (l.length : Int)))]) (fun (i : Nat) => (h.upd b (some (.row zs72)))) (fun (i : Nat) => i ≤ l.length ∧ firstB l = firstB (l.drop i)) (fun (i : Nat) => l.length - i) (0) ⟨rfl, rfl, rfl, rfl, rfl, rfl, trivial⟩ rfl (⟨by omega, rfl⟩) ?_
 rintro i ⟨hIi, hSi⟩
 refine AW_seq (AW_region rfl ?_)
 refine qp (v := vb (decide ((((i : Nat) : Int) : Int) < (l.length : Int)))) pI ?_
 refine AL_nil (AW_seq ?_)
 refine AW_cond _ rfl (fun hc0 => ?_) (fun hc0 => ?_)
 ·replace hc0 := of_decide_eq_true hc0
  obtain ⟨r, hrr, hdr, hmr⟩ := drop_at (l := l) (i := i) (by omega)
  rw [hdr, firstB] at hSi
  have hokr := hl.2 r hmr
  refine AW_skip (AW_seq (AW_block (AW_seq (AW_region rfl ?_))))
  refine qp (v := .ip (eRule r)) (PO_indexAddr rfl un22 ty46 rfl rfl (by first | decide | omega) (mget hrr)) ?_
  refine qp (v := .agg (eRule r)) (PO_load rfl ty46 rfl rfl) ?_
  refine AL_als rfl rfl rfl rfl rfl rfl al46 rfl rfl rfl rfl rfl ?_
  refine AL_keep [(15,_),(0,_),(2,_),(3,_),(13,_),(14,_),(5,_)] ⟨rfl,rfl,rfl,rfl,rfl,rfl,rfl,trivial⟩ ?_
  refine AL_nil (AW_seq (AW_region rfl ?_))
  refine qp (v := .agg (eRule r)) (PO_load rfl ty46 rfl rfl) ?_
  refine qp (v := vi (ruleU r)) (PO_call rfl rfl rfl (urule_ _ (by first | assumption))) ?_
  refine qa ?_
  refine AL_keep [(15,_),(0,_),(2,_),(3,_),(13,_),(14,_),(5,_),(6,_)] ⟨rfl,rfl,rfl,rfl,rfl,rfl,rfl,rfl,trivial⟩ ?_
  refine AL_nil (AW_seq (AW_region rfl ?_))
  refine qm ?_
  refine qp (v := vb (decide (((ruleU r) : Int) ≠ 0))) pI ?_
  refine AL_keep [(15,_),(0,_),(2,_),(3,_),(13,_),(14,_),(5,_),(6,_),(22,_)] ⟨rfl,rfl,rfl,rfl,rfl,rfl,rfl,rfl,rfl,trivial⟩ ?_
  refine AL_nil ?_
  refine AW_cond _ rfl (fun hc5 => ?_) (fun hc5 => ?_)
  ·replace hc5 := of_decide_eq_true hc5
   rw [if_pos hc5] at hSi
   have hw : progU l = ruleU r := by rw [progU, hSi, if_pos hc5]
   have hm : modeU l = false := by rw [modeU, if_pos (by rw [hw]; exact hc5)]
   refine AW_seq (AW_region rfl ?_)
   refine qp (v := .agg (eMode (⟨false⟩ : Mode))) (PO_build rfl z72 pl72 rfl rfl) ?_
   refine qm ?_
   refine AL_store (b := b) (off := 0) (cs := zs72) (v := .agg (eMode ⟨false⟩)) rfl rfl rfl ty72 rfl rfl (Heap.upd_same _ _ _) rfl rfl (by simp) ?_
   refine qa ?_
   refine AL_keep [(15,_),(0,_),(2,_),(3,_),(13,_),(14,_),(5,_),(6,_)] ⟨rfl,rfl,rfl,rfl,rfl,rfl,rfl,rfl,trivial⟩ ?_
   refine AL_nil ?_
   refine AW_ret ?_
   exact ret_G (.inl rfl) (Results.two rfl ty72 rfl (Heap.upd_same _ _ _) rfl rfl) (by rw [hw, hm]; rfl) (Heap.le_upd hle0 hb _) (by simp)
  ·replace hc5 := of_decide_eq_false hc5
   rw [if_neg hc5] at hSi
   refine AW_skip (AW_region rfl ?_)
   refine qp (v := vn (i + 1)) (PO_inc rfl rfl rfl (by first | omega | simp_all; omega)) ?_
   refine qm ?_
   refine AL_keep [(15,_),(0,_),(2,_),(3,_),(13,_),(14,_),(5,_),(6,_)] ⟨rfl,rfl,rfl,rfl,rfl,rfl,rfl,rfl,trivial⟩ ?_
   refine AL_nil ?_
   exact ⟨i + 1, ⟨by omega, hSi⟩, by omega, ⟨rfl, ⟨rfl, rfl, rfl, rfl, rfl, rfl, trivial⟩, rfl, rfl, rfl⟩⟩
 ·replace hc0 := of_decide_eq_false hc0
  rw [drop_end (l := l) (i := i) (by omega), firstB] at hSi
  have hw := firstB_step hSi
  refine AW_exit ?_
  refine AW_seq (AW_region rfl ?_)
  refine qm ?_
  refine qp (v := vb (negF l)) (PO_call rfl rfl rfl (neg30_ _ (by assumption))) ?_
  refine qa ?_
  refine AL_keep [(15,_),(0,_),(2,_),(3,_),(13,_),(14,_),(7,_)] ⟨rfl,rfl,rfl,rfl,rfl,rfl,rfl,trivial⟩ ?_
  refine AL_nil (AW_seq (AW_region rfl ?_))
  refine qa (v := vi 0) ?_
  refine AL_nil (AW_seq ?_)
  refine AW_label ?_
  refine AW_join (α := Int) (fun (bad : Int) => [(8, .lit (.int .i64 bad)), (0, .sl .any 13 (l.map eRule)), (2, .ptr b 0), (3, .lit (.int .i64 0)), (7, .lit (.bool (negF l)))]) (fun (bad : Int) => (h.upd b (some (.row zs72)))) (fun (bad : Int) => progS l (negF l) 0 l 0 = bad) ?_ ?_
  ·refine AW_seq (AW_region rfl ?_)
   refine qm ?_
   refine qp (v := vi (l.length : Int)) (PO_lenM rfl un22 rfl) ?_
   refine qm (v := vi 0) ?_
   refine AL_nil (AW_block ?_)
   refine AW_iter (fun (z_ : Nat × Int) => match z_ with | (j, bad) => [(30, .lit (.int .i64 ((j : Nat) : Int))), (8, .lit (.int .i64 bad)), (0, .sl .any 13 (l.map eRule)), (2, .ptr b 0), (3, .lit (.int .i64 0)), (7, .lit (.bool (negF l))), (28, .sl .any 13 (l.map eRule)), (29, .lit (.int .i64 (l.length : Int)))]) (fun (z_ : Nat × Int) => match z_ with | (j, bad) => (h.upd b (some (.row zs72)))) (fun (z_ : Nat × Int) => match z_ with | (j, bad) => j ≤ l.length ∧ progS l (negF l) 0 l 0 = progS l (negF l) j (l.drop j) bad) (fun (z_ : Nat × Int) => match z_ with | (j, bad) => l.length - j) ((0, 0)) ⟨rfl, rfl, rfl, rfl, rfl, rfl, rfl, rfl, trivial⟩ rfl (⟨by omega, rfl⟩) ?_
   rintro ⟨j, bad⟩ ⟨hIi, hSi⟩
   refine AW_seq (AW_region rfl ?_)
   refine qp (v := vb (decide ((((j : Nat) : Int) : Int) < (l.length : Int)))) pI ?_
   refine AL_nil (AW_seq ?_)
   refine AW_cond _ rfl (fun hc11 => ?_) (fun hc11 => ?_)
   ·replace hc11 := of_decide_eq_true hc11
    obtain ⟨r, hrr, hdr, hmr⟩ := drop_at (l := l) (i := j) (by omega)
    rw [hdr, progS] at hSi
    have hokr := hl.2 r hmr
    have hbl := hokr.2.1
    refine AW_skip (AW_seq (AW_block (AW_seq (AW_region rfl ?_))))
    refine qm ?_
    refine qp (v := .ip (eRule r)) (PO_indexAddr rfl un22 ty46 rfl rfl (by first | decide | omega) (mget hrr)) ?_
    refine qp (v := .agg (eRule r)) (PO_load rfl ty46 rfl rfl) ?_
    refine AL_alloc rfl rfl rfl rfl z46 fun b2 hb2 => ?_
    refine qa ?_
    refine AL_storeF (v := .agg (eRule r)) rfl rfl rfl ty46 rfl rfl hb2 rfl rfl rfl ?_
    refine AL_keep [(30,_),(8,_),(0,_),(2,_),(3,_),(7,_),(28,_),(29,_),(10,_),(9,_)] ⟨rfl,rfl,rfl,rfl,rfl,rfl,rfl,rfl,rfl,rfl,trivial⟩ ?_
    refine AL_nil (AW_seq (AW_seq (AW_region rfl ?_)))
    refine qm ?_
    refine qm ?_
    refine AL_jk 6 42 (vb ((negF l) && (decide (r.head.b.var ≠ ⟨#[]⟩)))) [(30,_),(8,_),(0,_),(2,_),(3,_),(7,_),(28,_),(29,_),(10,_),(9,_),(35,_),(36,_)] ⟨rfl,rfl,rfl,rfl,rfl,rfl,rfl,rfl,rfl,rfl,rfl,rfl,trivial⟩ ?_ ?_
    ·refine AL_split 36 _ rfl (fun hg36 => ?_) (fun hg36 => ?_)
     ·refine qg (v := .ip (List.drop 0 (eRule r))) (PO_fieldAddr rfl f46_0 rfl) ?_
      refine qg (v := .ip (List.drop (1 * 4) (List.drop 0 (eRule r)))) (PO_indexAddr_arr (i := 1) rfl un43 ty41 rfl rfl (by decide) (by decide)) ?_
      refine qg (v := .ip (List.drop 0 (List.drop (1 * 4) (List.drop 0 (eRule r))))) (PO_fieldAddr rfl f41_0 rfl) ?_
      refine qg (v := vs r.head.b.var) (PO_load rfl ty9 rfl rfl) ?_
      refine qg (v := vb (decide (r.head.b.var ≠ ⟨#[]⟩))) (PO_str rfl rfl rfl rfl) ?_
      refine qk ?_
      refine AL_say (k := 42) (vb ((negF l) && (decide (r.head.b.var ≠ ⟨#[]⟩)))) rfl (by rw [hg36]; rfl) ?_
      refine AL_say (k := 36) (vb (negF l)) rfl (by rw [hg36]) ?_
      exact nl ⟨rfl,rfl,rfl,rfl,rfl,rfl,rfl,rfl,rfl,rfl,rfl,rfl,rfl,trivial⟩
     ·refine qz ?_
      refine qz ?_
      refine qz ?_
      refine qz ?_
      refine qz ?_
      refine qk ?_
      refine AL_say (k := 42) (vb ((negF l) && (decide (r.head.b.var ≠ ⟨#[]⟩)))) rfl (by rw [hg36]; rfl) ?_
      refine AL_say (k := 36) (vb (negF l)) rfl (by rw [hg36]) ?_
      exact nl ⟨rfl,rfl,rfl,rfl,rfl,rfl,rfl,rfl,rfl,rfl,rfl,rfl,rfl,trivial⟩
    ·refine AL_keep [(42,_),(30,_),(8,_),(0,_),(2,_),(3,_),(7,_),(28,_),(29,_),(10,_),(9,_)] ⟨rfl,rfl,rfl,rfl,rfl,rfl,rfl,rfl,rfl,rfl,rfl,trivial⟩ ?_
     refine AL_nil ?_
     refine AW_cond _ rfl (fun hc13 => ?_) (fun hc13 => ?_)
     ·rw [if_pos hc13] at hSi
      refine AW_seq (AW_region rfl ?_)
      refine qa (v := vi 5) ?_
      refine AL_nil ?_
      refine AW_exit ?_
      exact ⟨5, hSi, ⟨rfl, ⟨rfl, rfl, rfl, rfl, rfl, trivial⟩, rfl, rfl, rfl⟩⟩
     ·rw [if_neg (by rw [hc13]; simp)] at hSi
      refine AW_skip (AW_seq (AW_seq (AW_region rfl ?_)))
      refine qp (v := .ip (List.drop 12 (eRule r))) (PO_fieldAddr rfl f46_1 rfl) ?_
      refine qp (v := vL r.body) (PO_load rfl ty44 rfl rfl) ?_
      refine qp (v := vi (r.body.length : Int)) (PO_lenM rfl un44 rfl) ?_
      refine qm (v := vi 0) ?_
      refine AL_keep [(30,_),(8,_),(0,_),(2,_),(3,_),(7,_),(28,_),(29,_),(10,_),(9,_),(44,_),(45,_),(46,_)] ⟨rfl,rfl,rfl,rfl,rfl,rfl,rfl,rfl,rfl,rfl,rfl,rfl,rfl,trivial⟩ ?_
      refine AL_nil (AW_block ?_)
      refine AW_iter (fun (k : Nat) => [(46, .lit (.int .i64 ((k : Nat) : Int))), (30, .lit (.int .i64 ((j : Nat) : Int))), (8, .lit (.int .i64 bad)), (0, .sl .any 13 (l.map eRule)), (2, .ptr b 0), (3, .lit (.int .i64 0)), (7, .lit (.bool (negF l))), (28, .sl .any 13 (l.map eRule)), (29, .lit (.int .i64 (l.length : Int))), (10, .ip (eRule r)), (9, .lit (.int .i64 ((j : Nat) : Int))), (44, .sl .any 21 (r.body.map eLit)), (45, .lit (.int .i64 (r.body.length : Int)))]) (fun (k : Nat) => (h.upd b (some (.row zs72)))) (fun (k : Nat) => k ≤ r.body.length ∧ nvB r.body = nvB (r.body.drop k)) (fun (k : Nat) => r.body.length - k) (0) ⟨rfl, rfl, rfl, rfl, rfl, rfl, rfl, rfl, rfl, rfl, rfl, rfl, rfl, trivial⟩ rfl (⟨by omega, rfl⟩) ?_
      rintro k ⟨hIk, hSk⟩
      refine AW_seq (AW_region rfl ?_)
      refine qp (v := vb (decide ((((k : Nat) : Int) : Int) < (r.body.length : Int)))) pI ?_
      refine AL_nil (AW_seq ?_)
      refine AW_cond _ rfl (fun hc4 => ?_) (fun hc4 => ?_)
      ·replace hc4 := of_decide_eq_true hc4
       obtain ⟨x, hrx, hdx, hmx⟩ := drop_at (l := r.body) (i := k) (by omega)
       rw [hdx, nvB] at hSk
       refine AW_skip (AW_seq (AW_block (AW_seq (AW_region rfl ?_))))
       refine qp (v := .ip (eLit x)) (PO_indexAddr rfl un44 ty68 rfl rfl (by first | decide | omega) (mget hrx)) ?_
       refine qp (v := .agg (eLit x)) (PO_load rfl ty68 rfl rfl) ?_
       refine AL_als rfl rfl rfl rfl rfl rfl al68 rfl rfl rfl rfl rfl ?_
       refine AL_keep [(46,_),(30,_),(8,_),(0,_),(2,_),(3,_),(7,_),(28,_),(29,_),(10,_),(9,_),(44,_),(45,_),(12,_)] ⟨rfl,rfl,rfl,rfl,rfl,rfl,rfl,rfl,rfl,rfl,rfl,rfl,rfl,rfl,trivial⟩ ?_
       refine AL_nil (AW_seq (AW_region rfl ?_))
       refine qp (v := .ip (List.drop 0 (eLit x))) (PO_fieldAddr rfl f68_0 rfl) ?_
       refine qp (v := vi x.kind) (PO_load rfl ty66 rfl rfl) ?_
       refine qp (v := vb (decide ((x.kind : Int) = 2))) pI ?_
       refine qm ?_
       refine AL_jk 6 59 (vb ((decide ((x.kind : Int) = 2)) && (decide (x.pat.b.var ≠ ⟨#[]⟩)))) [(46,_),(30,_),(8,_),(0,_),(2,_),(3,_),(7,_),(28,_),(29,_),(10,_),(9,_),(44,_),(45,_),(12,_),(50,_),(51,_),(52,_),(53,_)] ⟨rfl,rfl,rfl,rfl,rfl,rfl,rfl,rfl,rfl,rfl,rfl,rfl,rfl,rfl,rfl,rfl,rfl,rfl,trivial⟩ ?_ ?_
       ·refine AL_split 53 _ rfl (fun hg53 => ?_) (fun hg53 => ?_)
        ·refine qg (v := .ip (List.drop 1 (eLit x))) (PO_fieldAddr rfl f68_1 rfl) ?_
         refine qg (v := .ip (List.drop (1 * 4) (List.drop 1 (eLit x)))) (PO_indexAddr_arr (i := 1) rfl un43 ty41 rfl rfl (by decide) (by decide)) ?_
         refine qg (v := .ip (List.drop 0 (List.drop (1 * 4) (List.drop 1 (eLit x))))) (PO_fieldAddr rfl f41_0 rfl) ?_
         refine qg (v := vs x.pat.b.var) (PO_load rfl ty9 rfl rfl) ?_
         refine qg (v := vb (decide (x.pat.b.var ≠ ⟨#[]⟩))) (PO_str rfl rfl rfl rfl) ?_
         refine qk ?_
         refine AL_say (k := 59) (vb ((decide ((x.kind : Int) = 2)) && (decide (x.pat.b.var ≠ ⟨#[]⟩)))) rfl (by rw [hg53]; rfl) ?_
         refine AL_say (k := 53) (vb (decide ((x.kind : Int) = 2))) rfl (by rw [hg53]) ?_
         exact nl ⟨rfl,rfl,rfl,rfl,rfl,rfl,rfl,rfl,rfl,rfl,rfl,rfl,rfl,rfl,rfl,rfl,rfl,rfl,rfl,trivial⟩
        ·refine qz ?_
         refine qz ?_
         refine qz ?_
         refine qz ?_
         refine qz ?_
         refine qk ?_
         refine AL_say (k := 59) (vb ((decide ((x.kind : Int) = 2)) && (decide (x.pat.b.var ≠ ⟨#[]⟩)))) rfl (by rw [hg53]; rfl) ?_
         refine AL_say (k := 53) (vb (decide ((x.kind : Int) = 2))) rfl (by rw [hg53]) ?_
         exact nl ⟨rfl,rfl,rfl,rfl,rfl,rfl,rfl,rfl,rfl,rfl,rfl,rfl,rfl,rfl,rfl,rfl,rfl,rfl,rfl,trivial⟩
       ·refine AL_keep [(59,_),(46,_),(30,_),(8,_),(0,_),(2,_),(3,_),(7,_),(28,_),(29,_),(10,_),(9,_),(44,_),(45,_),(12,_)] ⟨rfl,rfl,rfl,rfl,rfl,rfl,rfl,rfl,rfl,rfl,rfl,rfl,rfl,rfl,rfl,trivial⟩ ?_
        refine AL_nil ?_
        refine AW_cond _ rfl (fun hc18 => ?_) (fun hc18 => ?_)
        ·rw [if_pos hc18] at hSk
         rw [if_pos hSk] at hSi
         refine AW_seq (AW_region rfl ?_)
         refine qa (v := vi 5) ?_
         refine AL_nil ?_
         refine AW_exit ?_
         exact ⟨5, hSi, ⟨rfl, ⟨rfl, rfl, rfl, rfl, rfl, trivial⟩, rfl, rfl, rfl⟩⟩
        ·rw [if_neg (by rw [hc18]; simp)] at hSk
         refine AW_skip (AW_region rfl ?_)
         refine qp (v := vn (k + 1)) (PO_inc rfl rfl rfl (by first | omega | simp_all; omega)) ?_
         refine qm ?_
         refine AL_keep [(46,_),(30,_),(8,_),(0,_),(2,_),(3,_),(7,_),(28,_),(29,_),(10,_),(9,_),(44,_),(45,_),(12,_)] ⟨rfl,rfl,rfl,rfl,rfl,rfl,rfl,rfl,rfl,rfl,rfl,rfl,rfl,rfl,trivial⟩ ?_
         refine AL_nil ?_
         exact ⟨k + 1, ⟨by omega, hSk⟩, by omega, ⟨rfl, ⟨rfl, rfl, rfl, rfl, rfl, rfl, rfl, rfl, rfl, rfl, rfl, rfl, rfl, trivial⟩, rfl, rfl, rfl⟩⟩
      ·replace hc4 := of_decide_eq_false hc4
       rw [drop_end (l := r.body) (i := k) (by omega), nvB] at hSk
       rw [hSk, if_neg (by simp)] at hSi
       refine AW_exit ?_
       refine AW_seq (AW_region rfl ?_)
       refine qm ?_
       refine qp (v := vb (decide ((bad : Int) = 0))) pI ?_
       refine qm ?_
       refine AL_jk 6 69 (vb ((decide ((bad : Int) = 0)) && ((l.take j).any (fun o => sameP o r)))) [(46,_),(30,_),(8,_),(0,_),(2,_),(3,_),(7,_),(28,_),(29,_),(10,_),(9,_),(44,_),(45,_),(61,_),(62,_),(63,_)] ⟨rfl,rfl,rfl,rfl,rfl,rfl,rfl,rfl,rfl,rfl,rfl,rfl,rfl,rfl,rfl,rfl,trivial⟩ ?_ ?_
       ·refine AL_split 63 _ rfl (fun hg63 => ?_) (fun hg63 => ?_)
        ·refine gm ?_
         refine gm ?_
         refine qg (v := vR (l.take j)) (PO_any (PO_slice_M (i := 0) (j := ((j : Nat) : Int)) rfl un22 ty46 rfl rfl rfl (by omega) (by omega) (by omega)) (by simp)) ?_
         refine qg (v := .fn (.func 37) [] [.ip (eRule r)]) (PO_makeFunc rfl rfl rfl) ?_
         refine qg (v := vb ((l.take j).any (fun o => sameP o r))) (PO_call rfl rfl rfl (has36_ _ (fun o => sameP o r) (l.take j) (by rw [List.length_take]; omega) (fun o ho => prog37_ r o (hl.2 o (List.mem_of_mem_take ho))))) ?_
         refine qk ?_
         refine AL_say (k := 69) (vb ((decide ((bad : Int) = 0)) && ((l.take j).any (fun o => sameP o r)))) rfl (by rw [hg63]; rfl) ?_
         refine AL_say (k := 63) (vb (decide ((bad : Int) = 0))) rfl (by rw [hg63]) ?_
         exact nl ⟨rfl,rfl,rfl,rfl,rfl,rfl,rfl,rfl,rfl,rfl,rfl,rfl,rfl,rfl,rfl,rfl,rfl,trivial⟩
        ·refine qz ?_
         refine qz ?_
         refine qz ?_
         refine qz ?_
         refine qz ?_
         refine qk ?_
         refine AL_say (k := 69) (vb ((decide ((bad : Int) = 0)) && ((l.take j).any (fun o => sameP o r)))) rfl (by rw [hg63]; rfl) ?_
         refine AL_say (k := 63) (vb (decide ((bad : Int) = 0))) rfl (by rw [hg63]) ?_
         exact nl ⟨rfl,rfl,rfl,rfl,rfl,rfl,rfl,rfl,rfl,rfl,rfl,rfl,rfl,rfl,rfl,rfl,rfl,trivial⟩
       ·refine AL_keep [(69,_),(46,_),(30,_),(8,_),(0,_),(2,_),(3,_),(7,_),(28,_),(29,_),(10,_),(9,_),(44,_),(45,_)] ⟨rfl,rfl,rfl,rfl,rfl,rfl,rfl,rfl,rfl,rfl,rfl,rfl,rfl,rfl,trivial⟩ ?_
        refine AL_nil ?_
        refine AW_cond _ rfl (fun hc21 => ?_) (fun hc21 => ?_)
        ·rw [if_pos hc21] at hSi
         refine AW_region rfl ?_
         refine qa (v := vi 8) ?_
         refine AL_nil (AW_region rfl ?_)
         refine qp (v := vn (j + 1)) (PO_inc rfl rfl rfl (by first | omega | simp_all; omega)) ?_
         refine qm ?_
         refine AL_keep [(46,_),(30,_),(8,_),(0,_),(2,_),(3,_),(7,_),(28,_),(29,_),(10,_),(9,_),(44,_),(45,_)] ⟨rfl,rfl,rfl,rfl,rfl,rfl,rfl,rfl,rfl,rfl,rfl,rfl,rfl,trivial⟩ ?_
         refine AL_nil ?_
         exact ⟨(j + 1, 8), ⟨by omega, hSi⟩, by simp only []; omega, ⟨rfl, ⟨rfl, rfl, rfl, rfl, rfl, rfl, rfl, rfl, trivial⟩, rfl, rfl, rfl⟩⟩
        ·rw [if_neg (by rw [hc21]; simp)] at hSi
         refine AW_skip (AW_region rfl ?_)
         refine qp (v := vn (j + 1)) (PO_inc rfl rfl rfl (by first | omega | simp_all; omega)) ?_
         refine qm ?_
         refine AL_keep [(46,_),(30,_),(8,_),(0,_),(2,_),(3,_),(7,_),(28,_),(29,_),(10,_),(9,_),(44,_),(45,_)] ⟨rfl,rfl,rfl,rfl,rfl,rfl,rfl,rfl,rfl,rfl,rfl,rfl,rfl,trivial⟩ ?_
         refine AL_nil ?_
         exact ⟨(j + 1, bad), ⟨by omega, hSi⟩, by simp only []; omega, ⟨rfl, ⟨rfl, rfl, rfl, rfl, rfl, rfl, rfl, rfl, trivial⟩, rfl, rfl, rfl⟩⟩
   ·replace hc11 := of_decide_eq_false hc11
    rw [drop_end (l := l) (i := j) (by omega), progS] at hSi
    refine AW_exit ?_
    exact ⟨bad, hSi, ⟨rfl, ⟨rfl, rfl, rfl, rfl, rfl, trivial⟩, rfl, rfl, rfl⟩⟩
  ·rintro bad hS
   refine AW_seq (AW_block (AW_seq (AW_region rfl ?_)))
   refine qm ?_
   refine qp (v := vb (decide ((bad : Int) ≠ 0))) pI ?_
   refine qa ?_
   refine AL_keep [(8,_),(0,_),(2,_),(3,_),(7,_),(71,_)] ⟨rfl,rfl,rfl,rfl,rfl,rfl,trivial⟩ ?_
   refine AL_nil ?_
   refine AW_cond _ rfl (fun hc24 => ?_) (fun hc24 => ?_)
   ·replace hc24 := of_decide_eq_true hc24
    rw [hS, if_pos hc24] at hw
    have hm : modeU l = false := by rw [modeU, if_pos (by rw [hw]; exact hc24)]
    refine AW_seq (AW_region rfl ?_)
    refine qp (v := .agg (eMode (⟨false⟩ : Mode))) (PO_build rfl z72 pl72 rfl rfl) ?_
    refine qm ?_
    refine AL_store (b := b) (off := 0) (cs := zs72) (v := .agg (eMode ⟨false⟩)) rfl rfl rfl ty72 rfl rfl (Heap.upd_same _ _ _) rfl rfl (by simp) ?_
    refine qa ?_
    refine AL_keep [(8,_),(0,_),(2,_),(3,_),(7,_)] ⟨rfl,rfl,rfl,rfl,rfl,trivial⟩ ?_
    refine AL_nil ?_
    refine AW_ret ?_
    exact ret_G (.inl rfl) (Results.two rfl ty72 rfl (Heap.upd_same _ _ _) rfl rfl) (by rw [hw, hm]; rfl) (Heap.le_upd hle0 hb _) (by simp)
   ·replace hc24 := of_decide_eq_false hc24
    rw [hS, if_neg hc24] at hw
    refine AW_seq (AW_region rfl ?_)
    refine qm ?_
    refine qp (v := vi (l.length : Int)) (PO_lenM rfl un22 rfl) ?_
    refine qp (v := vb (decide (((l.length : Int) : Int) > 1000))) pI ?_
    refine qa ?_
    refine AL_keep [(8,_),(0,_),(2,_),(3,_),(7,_),(76,_)] ⟨rfl,rfl,rfl,rfl,rfl,rfl,trivial⟩ ?_
    refine AL_nil ?_
    refine AW_cond _ rfl (fun hc26 => ?_) (fun hc26 => ?_)
    ·replace hc26 := of_decide_eq_true hc26
     rw [if_pos hc26] at hw
     have hm : modeU l = false := by rw [modeU, if_pos (by rw [hw]; simp)]
     refine AW_seq (AW_region rfl ?_)
     refine qp (v := .agg (eMode (⟨false⟩ : Mode))) (PO_build rfl z72 pl72 rfl rfl) ?_
     refine AL_store (b := b) (off := 0) (cs := zs72) (v := .agg (eMode ⟨false⟩)) rfl rfl rfl ty72 rfl rfl (Heap.upd_same _ _ _) rfl rfl (by simp) ?_
     refine qa (v := vi 9) ?_
     refine AL_keep [(8,_),(0,_),(2,_),(3,_),(7,_)] ⟨rfl,rfl,rfl,rfl,rfl,trivial⟩ ?_
     refine AL_nil ?_
     refine AW_ret ?_
     exact ret_G (.inl rfl) (Results.two rfl ty72 rfl (Heap.upd_same _ _ _) rfl rfl) (by rw [hw, hm]; rfl) (Heap.le_upd hle0 hb _) (by simp)
    ·replace hc26 := of_decide_eq_false hc26
     rw [if_neg hc26] at hw
     have hm : modeU l = !(negF l) := by rw [modeU, if_neg (by rw [hw]; simp)]
     refine AW_skip (AW_seq (AW_region rfl ?_))
     refine qm ?_
     refine qp (v := vb (!(negF l))) (PO_not (b := (negF l)) rfl rfl) ?_
     refine qp (v := .agg (eMode (⟨!(negF l)⟩ : Mode))) (PO_build rfl z72 pl72 rfl rfl) ?_
     refine AL_store (b := b) (off := 0) (cs := zs72) (v := .agg (eMode ⟨!(negF l)⟩)) rfl rfl rfl ty72 rfl rfl (Heap.upd_same _ _ _) rfl rfl (by simp) ?_
     refine qa (v := vi 0) ?_
     refine AL_keep [(8,_),(0,_),(2,_),(3,_),(7,_)] ⟨rfl,rfl,rfl,rfl,rfl,trivial⟩ ?_
     refine AL_nil ?_
     refine AW_ret ?_
     exact ret_G (.inl rfl) (Results.two rfl ty72 rfl (Heap.upd_same _ _ _) rfl rfl) (by rw [hw, hm]; rfl) (Heap.le_upd hle0 hb _) (by simp)
end Go.AM.Tryd
end
section
set_option linter.unusedVariables false
set_option linter.unusedSimpArgs false
namespace Go.AM
open Go.RowKit Go.AM.D
def ints (ns : List Int) : List AV := ns.map fun n => .lit (.int .i64 n)
theorem ints_len (ns : List Int) : (ints ns).length = ns.length := by simp [ints]
theorem ints_set {ns : List Int} {k : Nat} {v : Int} (h : k < ns.length) : setCells (ints ns) k [.lit (.int .i64 v)] = ints (ns.set k v) := by
  simp only [setCells, ints, List.length_singleton, ← List.map_take, ← List.map_drop]
  rw [List.set_eq_take_append_cons_drop, if_pos h]
  simp
theorem ints_zero (c : Nat) : azeros [.lit (.int .i64 0)] c = ints (List.replicate c 0) := by
  simp only [azeros, ints]
  induction c with
  | zero => rfl
  | succ c ih => simp only [List.replicate_succ, List.flatten_cons, ih]; rfl
theorem ints_get {ns : List Int} {k : Nat} (h : k < ns.length) : (ints ns)[k]? = some (.lit (.int .i64 (ns.getD k 0))) := by
  simp [ints, List.getD_eq_getElem?_getD, List.getElem?_eq_getElem h]
section
variable {P : Program} {ρ : Option Nat} {Q : Exit → AS → Prop} {o : Oper} {ops : Array Oper} {l : List Oper} {n d : Nat} {tm : List (Nat × AV)} {h h0 : Heap} {ms : List Nat} {σ : AS}
theorem PO_ixn {x ix : Operand} {t e : TypeId} {b len cap : Nat} {k : IntKind} {i : Int} {d : TypeDesc} (ho : o.op = .indexAddr t x ix) (ht : P.underlying t = some (.slice e)) (he : TyF P e d 1)
    (hx : ev σ.tm x = some (.ms b 0 1 len cap)) (hi : ev σ.tm ix = some (.lit (.int k i))) (h0 : 0 ≤ i) (h1 : i < len) : PO P ρ o σ (.ptr b i.toNat) := by
  have := PO_indexAddr_ms (ρ := ρ) ho ht he hx hi h0 h1
  rwa [Nat.zero_add, Nat.mul_one] at this
theorem PO_ixj {x ix : Operand} {t e : TypeId} {b len cap : Nat} {k : IntKind} {j : Nat} {d : TypeDesc} (ho : o.op = .indexAddr t x ix) (ht : P.underlying t = some (.slice e)) (he : TyF P e d 1)
    (hx : ev σ.tm x = some (.ms b 0 1 len cap)) (hi : ev σ.tm ix = some (.lit (.int k (j : Nat)))) (h1 : j < len) : PO P ρ o σ (.ptr b j) := by
  have := PO_ixn (ρ := ρ) ho ht he hx hi (by omega) (by omega)
  rwa [Int.toNat_natCast] at this
theorem PO_ldn {x : Operand} {t : TypeId} {b j : Nat} {ns : List Int} (ho : o.op = .load t x) (ht : TyF P t (.int .i64) 1) (hx : ev σ.tm x = some (.ptr b j)) (hb : σ.h b = some (.row (ints ns))) (hj : j < ns.length) : PO P ρ o σ (.lit (.int .i64 (ns.getD j 0))) :=
  PO_load_row ho ht hx hb (by
    have e : (ints ns).drop j = .lit (.int .i64 (ns.getD j 0)) :: (ints ns).drop (j + 1) := by
      have hj' : j < (ints ns).length := by rw [ints_len]; exact hj
      rw [List.drop_eq_getElem_cons hj']
      have := ints_get hj
      rw [List.getElem?_eq_getElem hj'] at this
      rw [Option.some.inj this]
    rw [e]; rfl)
theorem AL_stn {x y : Operand} {t : TypeId} {b j : Nat} {ns : List Int} {v : Int} (hg : o.guard = none) (hdst : o.dst = none) (ho : o.op = .store t x y) (ht : TyF P t (.int .i64) 1) (hx : ev tm x = some (.ptr b j)) (hy : ev tm y = some (.lit (.int .i64 v))) (hj : j < ns.length)
    (k : AL P ρ ops l Q ⟨n, tm, h.upd b (some (.row (ints (ns.set j v)))), ms, h0⟩) : AL P ρ ops (o :: l) Q ⟨n, tm, h.upd b (some (.row (ints ns))), ms, h0⟩ := by
  refine AL_store hg hdst ho ht hx hy (Heap.upd_same _ _ _) rfl rfl (by rw [ints_len]; omega) ?_
  rw [show acells (.lit (.int .i64 v)) = [.lit (.int .i64 v)] from rfl, ints_set hj, Heap.upd_upd]
  exact k
theorem AL_mkn {t e : TypeId} {by_ : Nat} {x y : Operand} {c : Nat} {k k' : IntKind} (hg : o.guard = none) (hdst : o.dst = some d) (hd : Nat.blt d n = true) (ho : o.op = .makeSlice t x y) (ht : P.underlying t = some (.slice e)) (he : TyF P e (.int .i64) 1) (hz : ZeroF P e [.lit (.int .i64 0)])
    (hb : (P.info? e).map (·.bytes) = some by_) (hx : ev tm x = some (.lit (.int k (c : Nat)))) (hy : ev tm y = some (.lit (.int k' (c : Nat)))) (hlim : by_ * c ≤ 281474976710656) (hc : c ≤ 9223372036854775807)
    (kk : ∀ b, h b = none → AL P ρ ops l Q ⟨n, (d, .ms b 0 1 c c) :: tm, h.upd b (some (.row (ints (List.replicate c 0)))), ms, h0⟩) : AL P ρ ops (o :: l) Q ⟨n, tm, h, ms, h0⟩ :=
  AL_makeSl hg hdst hd ho ht he hz rfl hb hx hy hlim hc fun b hb => by rw [ints_zero]; exact kk b hb
theorem AW_frzn {c : Code} {b len cap k : Nat} {ns : List Int} (hk : look tm k = some (.ms b 0 1 len cap)) (hb : h b = none) (hl : ns.length = len) (hc : len ≤ cap) (kk : AW P ρ c Q ⟨n, (k, .sl .any 1 (ns.map eI64)) :: tm, h, ms, h0⟩) : AW P ρ c Q ⟨n, tm, h.upd b (some (.row (ints ns))), ms, h0⟩ := by
  refine AW_ghost (σ' := ⟨n, (k, .sl .any 1 (ns.map eI64)) :: tm, (h.upd b (some (.row (ints ns)))).upd b none, ms, h0⟩) (ghost_ms (es := ns.map eI64) hk (Heap.upd_same _ _ _) (by simpa using hl) (by simp [eI64]) (fun i e j a h1 h2 => ?_) hc) (by rw [Heap.upd_none hb]; exact kk)
  rw [List.getElem?_map, Option.map_eq_some_iff] at h1
  obtain ⟨x, hx, rfl⟩ := h1
  have hj : j = 0 := by
    have := (List.getElem?_eq_some_iff.1 h2).1
    simp [eI64] at this; exact this
  subst hj
  simp only [eI64, List.getElem?_cons_zero, Option.some.injEq] at h2
  subst h2
  simp [ints, hx]
/-! ### Slices that grow, each with a row of its own -/
def Toks (S : Nat) (hp h0 : Heap) (os : List (Own × Nat)) : Prop :=
  (∀ (i : Nat) (o : Own) (m : Nat), os[i]? = some (o, m) → (o = .nil ∧ m = 0) ∨ ∃ b : Nat, o = .tok b ∧ hp b = some (.tok m S) ∧ h0 b = none) ∧
  ∀ (i j b m m' : Nat), os[i]? = some (.tok b, m) → os[j]? = some (.tok b, m') → i = j
def Same (hp hq : Heap) : Prop := ∀ b o, hp b = some o → (∀ m S, o ≠ .tok m S) → hq b = some o
theorem Same.refl (hp : Heap) : Same hp hp := fun _ _ e _ => e
theorem Same.trans {a b c : Heap} (h : Same a b) (k : Same b c) : Same a c := fun x o e hn => k x o (h x o e hn) hn
theorem Same.row {a b : Heap} (h : Same a b) {x : Nat} {cs : List AV} (e : a x = some (.row cs)) : b x = some (.row cs) := h x _ e fun _ _ e => by cases e
theorem Same.map {a b : Heap} (h : Same a b) {x : Nat} {ks : List CK} {g : Bool} {es : List (List Value × AV)} (e : a x = some (.map ks g es)) : b x = some (.map ks g es) := h x _ e fun _ _ e => by cases e
theorem Toks.le {S : Nat} {hp hq h0 : Heap} {os : List (Own × Nat)} (h : Toks S hp h0 os) (hk : ∀ b m, hp b = some (.tok m S) → hq b = some (.tok m S)) : Toks S hq h0 os :=
  ⟨fun i o m e => (h.1 i o m e).imp id fun ⟨b, h1, h2, h3⟩ => ⟨b, h1, hk b m h2, h3⟩, h.2⟩
theorem Toks.upd {S : Nat} {hp h0 : Heap} {os : List (Own × Nat)} (h : Toks S hp h0 os) {b : Nat} {x : Option AObj} (hb : ∀ m S, hp b ≠ some (.tok m S)) : Toks S (hp.upd b x) h0 os :=
  h.le fun q m e => by rw [Heap.upd_other _ (fun e2 => by subst e2; exact hb _ _ e)]; exact e
theorem MO_appT {α : Type} {f : α → List AV} {acc ys : List α} {s x : Operand} {t tx e e' : TypeId} {S S' bytes i : Nat} {dd : TypeDesc} {zs : List AV} {own own' : Own} {os : List (Own × Nat)} (ho : o.op = .call { callee := .builtin .append, args := #[s, x], argTypes := #[t, tx] })
    (ht : P.underlying t = some (.slice e)) (htx : P.underlying tx = some (.slice e')) (he : TyF P e dd S) (hz : ZeroF P e zs) (hzl : zs.length = S) (hb : (P.info? e).map (·.bytes) = some bytes)
    (hse : ev tm s = some (.sl own S' (acc.map f))) (hxe : ev tm x = some (.sl own' S (ys.map f))) (hS : S' = S ∨ acc = []) (hpos : 0 < ys.length)
    (hT : Toks S h h0 os) (hi : os[i]? = some (own, acc.length)) (hle : h0.le h) (hlim : (acc.length + ys.length) * bytes ≤ 140737488355328) (h63 : acc.length + ys.length ≤ 9223372036854775807) :
    MO P ρ o ⟨n, tm, h, ms, h0⟩ (fun u h' => ∃ own2, u = .sl own2 S ((acc ++ ys).map f) ∧ Toks S h' h0 (os.set i (own2, (acc ++ ys).length)) ∧ h0.le h' ∧ Same h h') := by
  have hown : own = .nil ∨ own = .full ∨ ∃ b, own = .tok b ∧ h b = some (.tok (acc.map f).length S) := by
    rcases hT.1 i _ _ hi with ⟨e, -⟩ | ⟨b, e, e2, -⟩
    · exact .inl e
    · exact .inr (.inr ⟨b, e, by simpa using e2⟩)
  intro g I a w hs
  refine wpIn_oper_mono (MO_append (ρ := ρ) (σ := ⟨n, tm, h, ms, h0⟩) ho ht htx he hz hzl hb hse hxe (hS.imp id fun e => by rw [e]; rfl) (by simpa using hpos) hown (by simpa using hlim) (by simpa using h63) g I a w hs) ?_ fun _ _ _ h => h
  rintro a' w' ⟨I', u, v, h', h1, h2, h3, h4, b, hb', hv, hh⟩
  simp only [List.length_map] at hh
  have hb0 : h0 b = none := by
    rcases hb' with hb' | hb'
    · exact Heap.none_of hle hb'
    · rcases hT.1 i _ _ hi with ⟨e, -⟩ | ⟨c, e, -, e3⟩
      · rw [e] at hb'; cases hb'
      · rw [e] at hb'; injection hb' with hb'; rw [← hb']; exact e3
  -- what h' says of the other blocks
  have hoth : ∀ q, q ≠ b → (∀ c, own = .tok c → q ≠ c) → h' q = h q := by
    intro q hq hqc
    rw [hh, Heap.upd_other _ hq]
    cases hown' : own with
    | tok c => rw [delOwn, Heap.upd_other _ (hqc c hown')]
    | _ => rfl
  have hat : h' b = some (.tok (acc.length + ys.length) S) := by rw [hh, Heap.upd_same]
  -- the token's block holds a token
  have htok : ∀ c, own = .tok c → h c = some (.tok acc.length S) ∧ h0 c = none := by
    intro c hc
    rcases hT.1 i _ _ hi with ⟨e, -⟩ | ⟨c', e, e2, e3⟩
    · rw [e] at hc; cases hc
    · rw [e] at hc; injection hc with hc; subst hc; exact ⟨e2, e3⟩
  refine ⟨I', u, v, h', h1, h2, h3, h4, .tok b, by rw [hv, List.map_append], ⟨fun j o m e => ?_, fun j k c m m' e1 e2 => ?_⟩, fun q x e => ?_, fun q x e hn => ?_⟩
  · rw [List.getElem?_set] at e
    split at e
    · split at e
      · injection e with e; injection e with e1 e2; subst e1; subst e2
        refine .inr ⟨b, rfl, by rw [hat, List.length_append], hb0⟩
      · cases e
    · rename_i hne
      rcases hT.1 j o m e with h5 | ⟨c, h5, h6, h7⟩
      · exact .inl h5
      · refine .inr ⟨c, h5, ?_, h7⟩
        rw [hoth c ?_ ?_]; exact h6
        · intro hcb
          subst hcb
          rcases hb' with hb' | hb'
          · rw [show (AS.h ⟨n, tm, h, ms, h0⟩) c = h c from rfl, h6] at hb'; cases hb'
          · exact hne (hT.2 i j c _ _ (by rw [hi, hb']) (by rw [e, h5]))
        · intro c' hc' hcc
          subst hcc
          exact hne (hT.2 i j c _ _ (by rw [hi, hc']) (by rw [e, h5]))
  · rw [List.getElem?_set] at e1 e2
    by_cases hj : i = j
    · by_cases hk : i = k
      · omega
      · rw [if_pos hj] at e1; rw [if_neg hk] at e2
        split at e1
        · injection e1 with e1; injection e1 with e1 _; injection e1 with e1; subst e1
          rcases hT.1 k _ _ e2 with ⟨e, -⟩ | ⟨c, e, e3, -⟩
          · cases e
          · injection e with e; subst e
            rcases hb' with hb' | hb'
            · rw [show (AS.h ⟨n, tm, h, ms, h0⟩) b = h b from rfl, e3] at hb'; cases hb'
            · exact absurd (hT.2 i k b _ _ (by rw [hi, hb']) e2) hk
        · cases e1
    · rw [if_neg hj] at e1
      by_cases hk : i = k
      · rw [if_pos hk] at e2
        split at e2
        · injection e2 with e2; injection e2 with e2 _; injection e2 with e2; subst e2
          rcases hT.1 j _ _ e1 with ⟨e, -⟩ | ⟨c, e, e3, -⟩
          · cases e
          · injection e with e; subst e
            rcases hb' with hb' | hb'
            · rw [show (AS.h ⟨n, tm, h, ms, h0⟩) b = h b from rfl, e3] at hb'; cases hb'
            · exact absurd (hT.2 i j b _ _ (by rw [hi, hb']) e1) hj
        · cases e2
      · rw [if_neg hk] at e2; exact hT.2 j k c m m' e1 e2
  · have hq1 : q ≠ b := fun e2 => by subst e2; rw [hb0] at e; cases e
    rw [hoth q hq1 (fun c hc e2 => by subst e2; rw [(htok _ hc).2] at e; cases e)]
    exact hle q x e
  · have hq1 : q ≠ b := fun e2 => by
      subst e2
      rcases hb' with hb' | hb'
      · rw [show (AS.h ⟨n, tm, h, ms, h0⟩) q = h q from rfl, e] at hb'; cases hb'
      · rw [(htok _ hb').1] at e; injection e with e; exact hn _ _ e.symm
    rw [hoth q hq1 (fun c hc e2 => by subst e2; rw [(htok _ hc).1] at e; injection e with e; exact hn _ _ e.symm)]
    exact e
structure Gs (α : Type) where
  own : Own
  S : Nat
  l : List α
def Gs.cell {α : Type} (f : α → List AV) (p : Gs α) : AV := .sl p.own p.S (p.l.map f)
def Gs.ow {α : Type} (p : Gs α) : Own × Nat := (p.own, p.l.length)
structure Forest {α : Type} (f : α → List AV) (S : Nat) (hp h0 : Heap) (bo : Nat) (fo : List (Gs α)) : Prop where
  row : hp bo = some (.row (fo.map (Gs.cell f)))
  toks : Toks S hp h0 (fo.map Gs.ow)
  sz : ∀ p ∈ fo, p.S = S ∨ p.l = []
theorem gs_set {α : Type} {f : α → List AV} {fo : List (Gs α)} {i : Nat} {p : Gs α} (h : i < fo.length) : setCells (fo.map (Gs.cell f)) i [p.cell f] = (fo.set i p).map (Gs.cell f) := by
  simp only [setCells, List.length_singleton, ← List.map_take, ← List.map_drop]
  rw [List.set_eq_take_append_cons_drop, if_pos h]
  simp
theorem gs_load {α : Type} {f : α → List AV} {fo : List (Gs α)} {i : Nat} {p : Gs α} (h : fo[i]? = some p) {dd : TypeDesc} (hd : isAggD dd = false) : loaded dd 1 ((fo.map (Gs.cell f)).drop i) = some (p.cell f) := by
  obtain ⟨hi, rfl⟩ := List.getElem?_eq_some_iff.1 h
  rw [← List.map_drop, List.drop_eq_getElem_cons hi, List.map_cons]
  unfold loaded
  rw [hd]
  rfl
theorem ghost_rowW {b : Nat} {ds ds' : List AV} (hb : h b = some (.row ds)) (hl : ds.length = ds'.length) (hf : ∀ (i : Nat) (x y : AV), ds[i]? = some x → ds'[i]? = some y → (AV.cell x = true → AV.cell y = true) ∧ ∀ I v, VR I x v → VR I y v) :
    Ghost ⟨n, tm, h, ms, h0⟩ ⟨n, tm, h.upd b (some (.row ds')), ms, h0⟩ := by
  intro g I a w hs
  obtain ⟨hbase, arr, e, hw, hsz, hcl, hvr, hfree⟩ := hs.wr.obj b _ hb
  have hget : ∀ (i : Nat) (y : AV), ds'[i]? = some y → ∃ x, ds[i]? = some x ∧ (AV.cell x = true → AV.cell y = true) ∧ ∀ I v, VR I x v → VR I y v := fun i y hy => by
    have hi : i < ds.length := by rw [hl]; exact (List.getElem?_eq_some_iff.1 hy).1
    exact ⟨_, List.getElem?_eq_getElem hi, hf i _ y (List.getElem?_eq_getElem hi) hy⟩
  exact ⟨I, hs.setObj b (.row ds') hbase ⟨arr, e, hw, by omega, fun y hy => by
    obtain ⟨i, hi, rfl⟩ := List.mem_iff_getElem.1 hy
    obtain ⟨x, hx, h1, -⟩ := hget i _ (List.getElem?_eq_getElem hi)
    exact h1 (hcl x (List.mem_of_getElem? hx)), fun i y hy => by
    obtain ⟨x, hx, -, h2⟩ := hget i y hy
    exact h2 _ _ (hvr i x hx), hfree⟩ (fun o' e' => by rw [show (AS.h ⟨n, tm, h, ms, h0⟩) b = h b from rfl, hb] at e'; cases e'; rfl)⟩
theorem ghost_in {b c : Nat} {cs ds ds' : List AV} (hb : h b = some (.row cs)) (hc : h c = some (.row ds)) (hne : c ≠ b) (hl : ds.length = ds'.length) (hf : ∀ (i : Nat) (x y : AV), ds[i]? = some x → ds'[i]? = some y → (AV.cell x = true → AV.cell y = true) ∧ Frz b cs x y) :
    Ghost ⟨n, tm, h, ms, h0⟩ ⟨n, tm, (h.upd b none).upd c (some (.row ds')), ms, h0⟩ := by
  intro g I a w hs
  obtain ⟨hbase, arr, e, hw, hsz, hcl, hvr, hfree⟩ := hs.wr.obj b _ hb
  have h1 : ∀ o v, I.cell b o = some v → (if o < cs.length then arr[o]? else none) = some v := fun o v k => by rw [hfree] at k; cases k
  have s1 := (hs.delObj b (fun o e => by rw [show (AS.h ⟨n, tm, h, ms, h0⟩) b = h b from rfl, hb] at e; cases e; rfl)).setBlk b (fun o => if o < cs.length then arr[o]? else none) h1 (fun o v k => by
    split at k
    · simpa [World.cell?, hw] using k
    · cases k) (by simp [AS.setH])
  have hc1 : (AS.setH ⟨n, tm, h, ms, h0⟩ (h.upd b none)).h c = some (.row ds) := by simp [AS.setH, Heap.upd, hne, hc]
  obtain ⟨kbase, arr2, e2, kw, ksz, kcl, kvr, kfree⟩ := s1.wr.obj c _ hc1
  have hget : ∀ (i : Nat) (y : AV), ds'[i]? = some y → ∃ x, ds[i]? = some x ∧ (AV.cell x = true → AV.cell y = true) ∧ Frz b cs x y := fun i y hy => by
    have hi : i < ds.length := by rw [hl]; exact (List.getElem?_eq_some_iff.1 hy).1
    exact ⟨_, List.getElem?_eq_getElem hi, hf i _ y (List.getElem?_eq_getElem hi) hy⟩
  have s2 := s1.setObj c (.row ds') kbase ⟨arr2, e2, kw, by omega, fun y hy => by
    obtain ⟨i, hi, rfl⟩ := List.mem_iff_getElem.1 hy
    obtain ⟨x, hx, h3, -⟩ := hget i _ (List.getElem?_eq_getElem hi)
    exact h3 (kcl x (List.mem_of_getElem? hx)), fun i y hy => by
    obtain ⟨x, hx, -, h3⟩ := hget i y hy
    refine h3.vr (u := fun j => arr.getD j default) (fun j a ha => ?_) hcl (fun j a ha => (hvr j a ha).mono (Imm.le_setBlk h1)) (kvr i x hx)
    have hlt : j < cs.length := (List.getElem?_eq_some_iff.1 ha).1
    simp [Imm.setBlk, hlt, Array.getElem?_eq_getElem (show j < arr.size by omega), Array.getD_eq_getD_getElem?], kfree⟩ (fun o' e' => by rw [hc1] at e'; cases e'; rfl)
  exact ⟨_, s2⟩
theorem ghost_inMp {b c j : Nat} {ks : List CK} {agg : Bool} {es : List (List Value × AV)} {ds : List AV} (hb : h b = some (.map ks agg es)) (hc : h c = some (.row ds)) (hj : ds[j]? = some (.mp b)) :
    Ghost ⟨n, tm, h, ms, h0⟩ ⟨n, tm, (h.upd b none).upd c (some (.row (ds.set j (.im ks agg es)))), ms, h0⟩ := by
  intro g I a w hs
  have hne : c ≠ b := fun e => by subst e; rw [hb] at hc; cases hc
  obtain ⟨hbase, ents, clock, hw, hsz, hvr, hfree⟩ := hs.wr.obj b _ hb
  have s0 := hs.delObj b (fun o e => by rw [show (AS.h ⟨n, tm, h, ms, h0⟩) b = h b from rfl, hb] at e; cases e; rfl)
  obtain ⟨s1, hle⟩ := s0.setMp b ents.toList hfree (clock := clock) (by simpa using hw) (by simp [AS.setH])
  have hc1 : (AS.setH ⟨n, tm, h, ms, h0⟩ (h.upd b none)).h c = some (.row ds) := by simp [AS.setH, Heap.upd, hne, hc]
  obtain ⟨kbase, arr2, e2, kw, ksz, kcl, kvr, kfree⟩ := s1.wr.obj c _ hc1
  have s2 := s1.setObj c (.row (ds.set j (.im ks agg es))) kbase ⟨arr2, e2, kw, by simpa using ksz, fun y hy => by
    rcases List.mem_or_eq_of_mem_set hy with hy | rfl
    · exact kcl y hy
    · rfl, fun i y hy => by
    rw [List.getElem?_set] at hy
    split at hy
    · rename_i hij
      subst hij
      split at hy
      · injection hy with hy
        subst hy
        have hm := kvr j _ hj
        generalize arr2.getD j default = u at hm
        cases hm with
        | mp =>
          refine .im ks agg es b ents.toList (by simp [Imm.setMp]) (by simpa using hsz) (fun i p e h1 h2 => ?_) (fun i p e h1 h2 => ?_)
          · have := hvr i p e h1 (by simpa using h2); exact ⟨this.1, this.2.1⟩
          · exact ((hvr i p e h1 (by simpa using h2)).2.2).mono hle
      · cases hy
    · exact kvr i y hy, kfree⟩ (fun o' e' => by rw [hc1] at e'; cases e'; rfl)
  exact ⟨_, s2⟩
theorem VR.gs {α : Type} {f : α → List AV} {S : Nat} {p : Gs α} {I : Imm} {v : Value} (hS : p.S = S ∨ p.l = []) (h : VR I (p.cell f) v) : VR I (.sl .any S (p.l.map f)) v := by
  rcases hS with e | e
  · rw [← e]; exact VR.any h
  · have h := VR.any (show VR I (.sl p.own p.S (p.l.map f)) v from h)
    rw [e] at h ⊢
    cases h with
    | slnil _ _ h => exact .slnil _ _ (.inr rfl)
    | sl _ _ _ ad cap u ho hl hcl hc hv => exact .sl _ _ [] ad cap u ho (by simp) (by simp) (by simp) (by simp)
end
end Go.AM
end
section
set_option linter.unusedVariables false
set_option linter.unusedSimpArgs false
namespace Go.AM.Tryd
open Go Go.AM Go.AM.D
theorem getD_set {ns : List Int} {i j : Nat} {v : Int} (hi : i < ns.length) : (ns.set i v).getD j 0 = if i = j then v else ns.getD j 0 := by
  simp only [List.getD_eq_getElem?_getD, List.getElem?_set]
  by_cases h : i = j
  · subst h; simp [hi]
  · simp [h]
def Lo (m : Nat) (ns : List Int) : Prop := ns.length = m ∧ ∀ j, j < m → 1 ≤ ns.getD j 0
def Hi (m : Nat) (ns : List Int) : Prop := ∀ j, j < m → ns.getD j 0 ≤ m
def Bel (C : List Int → Prop) (m : Nat) (ns : List Int) : Prop := ∀ ms, Lo m ms → C ms → ∀ j, j < m → ns.getD j 0 ≤ ms.getD j 0
structure IsL (C : List Int → Prop) (m : Nat) (ns : List Int) : Prop where
  lo : Lo m ns
  hi : Hi m ns
  cl : C ns
  bel : Bel C m ns
theorem IsL.one {C : List Int → Prop} {m : Nat} {a b : List Int} (ha : IsL C m a) (hb : IsL C m b) : a = b := by
  apply List.ext_getElem
  · rw [ha.lo.1, hb.lo.1]
  · intro i h1 h2
    have hi : i < m := by rw [← ha.lo.1]; exact h1
    have k1 := ha.bel b hb.lo hb.cl i hi
    have k2 := hb.bel a ha.lo ha.cl i hi
    simp only [List.getD_eq_getElem?_getD, List.getElem?_eq_getElem h1, List.getElem?_eq_getElem h2, Option.getD_some] at k1 k2
    omega
open Classical in
noncomputable def numV (C : List Int → Prop) (m : Nat) : Option (List Int) := if h : ∃ ns, IsL C m ns then some h.choose else none
theorem numV_some {C : List Int → Prop} {m : Nat} {ns : List Int} (h : IsL C m ns) : numV C m = some ns := by
  have hx : ∃ ns, IsL C m ns := ⟨ns, h⟩
  rw [numV, dif_pos hx]
  exact congrArg some (hx.choose_spec.one h)
theorem numV_spec {C : List Int → Prop} {m : Nat} {ns : List Int} (h : numV C m = some ns) : IsL C m ns := by
  rw [numV] at h
  split at h
  · rename_i hx; injection h with h; rw [← h]; exact hx.choose_spec
  · cases h
theorem numV_none {C : List Int → Prop} {m : Nat} {ns : List Int} {j : Nat} (hb : Bel C m ns) (hj : j < m) (h : (m : Int) < ns.getD j 0) : numV C m = none := by
  rw [numV]
  split
  · rename_i hx
    obtain ⟨ms, hm⟩ := hx
    have := hb ms hm.lo hm.cl j hj
    have := hm.hi j hj
    omega
  · rfl
theorem numV_congr {C D : List Int → Prop} {m : Nat} (h : ∀ ns, Lo m ns → (C ns ↔ D ns)) : numV C m = numV D m := by
  have hI : ∀ ns, IsL C m ns ↔ IsL D m ns := fun ns => ⟨fun k => ⟨k.lo, k.hi, (h ns k.lo).1 k.cl, fun ms lm cm => k.bel ms lm ((h ms lm).2 cm)⟩, fun k => ⟨k.lo, k.hi, (h ns k.lo).2 k.cl, fun ms lm cm => k.bel ms lm ((h ms lm).1 cm)⟩⟩
  cases hd : numV D m with
  | some ns => exact numV_some ((hI ns).2 (numV_spec hd))
  | none =>
    cases hc : numV C m with
    | none => rfl
    | some ns => rw [numV_some ((hI ns).1 (numV_spec hc))] at hd; cases hd
structure Rd (C : List Int → Prop) (m : Nat) (ns0 ns : List Int) (g : Bool) : Prop where
  lo : Lo m ns
  bel : Bel C m ns
  ge : ∀ j, j < m → ns0.getD j 0 ≤ ns.getD j 0
  gF : g = false → ns = ns0
  gT : g = true → ∃ j, j < m ∧ ns0.getD j 0 < ns.getD j 0
theorem Rd.start {C : List Int → Prop} {m : Nat} {ns : List Int} (h : Lo m ns) (hb : Bel C m ns) : Rd C m ns ns false := ⟨h, hb, fun _ _ => Int.le_refl _, fun _ => rfl, fun h => by cases h⟩
theorem Rd.step {C : List Int → Prop} {m : Nat} {ns0 ns : List Int} {g : Bool} (h : Rd C m ns0 ns g) {i : Nat} {v : Int} (hi : i < m) (hv : ns.getD i 0 < v) (hC : ∀ ms, Lo m ms → C ms → v ≤ ms.getD i 0) : Rd C m ns0 (ns.set i v) true := by
  have hl : i < ns.length := by rw [h.lo.1]; exact hi
  have hlo := h.lo.2 i hi
  refine ⟨⟨by rw [List.length_set]; exact h.lo.1, fun j hj => ?_⟩, fun ms hm hc j hj => ?_, fun j hj => ?_, (fun e => by cases e), fun _ => ⟨i, hi, ?_⟩⟩
  · rw [getD_set hl]; split
    · omega
    · exact h.lo.2 j hj
  · rw [getD_set hl]; split
    · rename_i e; subst e; exact hC ms hm hc
    · exact h.bel ms hm hc j hj
  · rw [getD_set hl]; split
    · rename_i e; subst e; have := h.ge i hj; omega
    · exact h.ge j hj
  · rw [getD_set hl, if_pos rfl]; have := h.ge i hi; omega
def room (m : Nat) (ns : List Int) : Nat → Nat
  | 0 => 0
  | j + 1 => room m ns j + ((m : Int) - ns.getD j 0).toNat
theorem room_le {m : Nat} {a b : List Int} : ∀ k, (∀ j, j < k → a.getD j 0 ≤ b.getD j 0) → room m b k ≤ room m a k
  | 0, _ => Nat.le_refl _
  | k + 1, h => by
    have h1 := room_le (m := m) k (fun j hj => h j (by omega))
    have h2 := h k (by omega)
    simp only [room]; omega
theorem room_lt {m : Nat} {a b : List Int} : ∀ k, (∀ j, j < k → a.getD j 0 ≤ b.getD j 0 ∧ b.getD j 0 ≤ m) → (∃ j, j < k ∧ a.getD j 0 < b.getD j 0) → room m b k < room m a k
  | 0, _, ⟨j, hj, _⟩ => by omega
  | k + 1, h, ⟨j, hj, hlt⟩ => by
    have h2 := h k (by omega)
    simp only [room]
    by_cases hjk : j = k
    · subst hjk
      have h1 := room_le (m := m) j (fun q hq => (h q (by omega)).1)
      omega
    · have h1 := room_lt (m := m) k (fun q hq => h q (by omega)) ⟨j, by omega, hlt⟩
      omega
theorem rep_set {m i : Nat} (h : i < m) : (List.replicate i (1 : Int) ++ List.replicate (m - i) 0).set i 1 = List.replicate (i + 1) 1 ++ List.replicate (m - (i + 1)) 0 := by
  rw [List.set_append_right _ _ (by simp), List.length_replicate, Nat.sub_self, show m - i = (m - (i + 1)) + 1 by omega, List.replicate_succ, List.set_cons_zero, List.replicate_succ', List.append_assoc]
  rfl
theorem rep_done {m : Nat} {i : Nat} (h : i = m) : List.replicate i (1 : Int) ++ List.replicate (m - i) 0 = List.replicate m 1 := by
  subst h; simp
theorem rep_get {m j : Nat} (h : j < m) : (List.replicate m (1 : Int)).getD j 0 = 1 := by
  simp [List.getD_eq_getElem?_getD, List.getElem?_replicate, h]
theorem rep_lo (m : Nat) : Lo m (List.replicate m 1) := ⟨List.length_replicate, fun j hj => by rw [rep_get hj]; omega⟩
theorem rep_bel (C : List Int → Prop) (m : Nat) : Bel C m (List.replicate m 1) := fun ms hm _ j hj => by rw [rep_get hj]; exact hm.2 j hj
theorem rep_hi (m : Nat) : Hi m (List.replicate m 1) := fun j hj => by rw [rep_get hj]; omega
/-! The reference's rule -/
def nilT : Term := ⟨0, ⟨#[]⟩, ⟨#[]⟩⟩
def tAt (p : List Term) (i : Nat) : Term := p.getD i nilT
theorem tAt_get {p : List Term} {i : Nat} (h : i < p.length) : p[i]? = some (tAt p i) := by
  rw [tAt, List.getD_eq_getElem?_getD, List.getElem?_eq_getElem h]; rfl
def cpair (l : List Rule) (p : List Term) (ns : List Int) (i k : Nat) : Prop := (hangF (tAt p i) (tAt p k) true l = true → ns.getD k 0 + 1 ≤ ns.getD i 0) ∧ (hangF (tAt p i) (tAt p k) false l = true → ns.getD k 0 ≤ ns.getD i 0)
def clR (l : List Rule) (p : List Term) (ns : List Int) : Prop := ∀ i k, i < p.length → k < p.length → cpair l p ns i k
def ofV : Option (List Int) → List Int × Int
  | some ns => (ns, 0)
  | none => ([], 6)
noncomputable def refN (l : List Rule) : List Int × Int :=
  if progR l ≠ 0 then ([], progR l) else if negF l = false then (List.replicate (predF l []).length 1, 0) else ofV (numV (clR l (predF l [])) (predF l []).length)
theorem predF_len : ∀ (l : List Rule) (acc : List Term), (predF l acc).length ≤ acc.length + l.length
  | [], acc => by simp [predF]
  | r :: l, acc => by
    rw [predF]
    split
    · have := predF_len l (acc ++ [r.head.b.term]); simp at this ⊢; omega
    · have := predF_len l acc; simp at this ⊢; omega
end Go.AM.Tryd
end
