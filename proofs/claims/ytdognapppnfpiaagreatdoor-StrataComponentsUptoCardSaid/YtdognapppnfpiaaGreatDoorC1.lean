/- A part of the proof: walks of the code and laws that they use (Am1, Am2). Conditions: as each theorem names them. -/
import Derived.CallsIn
import Derived.RangeFuncLeaves
import Derived.Below
import Derived.KernelRfl
section
namespace Go.AM
open Go.RowKit
structure Blw (B : Nat) (w w' : World) : Prop extends Below B w w' where
  drawn : w.drawn ≤ w'.drawn
theorem Blw.refl (B : Nat) (w : World) : Blw B w w := ⟨.refl B w, Nat.le_refl _⟩
theorem Blw.trans {B : Nat} {a b c : World} (h : Blw B a b) (k : Blw B b c) : Blw B a c := ⟨h.toBelow.trans k.toBelow, Nat.le_trans h.drawn k.drawn⟩
theorem Blw.drew {B : Nat} {a w : World} (h : Blw B a w) : Blw B a w.drew := ⟨h.toBelow.drew, Nat.le_succ_of_le h.drawn⟩
theorem Blw.alloc {B : Nat} {a w : World} (h : Blw B a w) (hB : B ≤ w.heap.size) (o : Obj) : Blw B a (w.alloc o) := ⟨h.toBelow.alloc hB o, h.drawn⟩
inductive CK where
  | int (k : IntKind)
  | str
  | bool
  deriving DecidableEq
def kOk : CK → Value → Bool
  | .int k, .int k' _ => k == k'
  | .str, .string _ => true
  | .bool, .bool _ => true
  | _, _ => false
def kOks : List CK → List Value → Bool
  | [], [] => true
  | k :: ks, v :: vs => kOk k v && kOks ks vs
  | _, _ => false
def vEq : Value → Value → Bool
  | .int _ a, .int _ b => decide (a = b)
  | .string a, .string b => decide (a = b)
  | .bool a, .bool b => decide (a = b)
  | _, _ => false
def vEqs : List Value → List Value → Bool
  | [], [] => true
  | a :: as, b :: bs => vEq a b && vEqs as bs
  | _, _ => false
def mkV (agg : Bool) (us : List Value) : Value := match agg with | true => .agg us.toArray | false => us.headD default
inductive Own where
  | any
  | nil
  | full
  | tok (b : Nat)
inductive AV where
  | lit (v : Value)
  | sl (own : Own) (S : Nat) (es : List (List AV))
  | ip (cs : List AV)
  | im (ks : List CK) (agg : Bool) (es : List (List Value × AV))
  | ptr (b off : Nat)
  | ms (b off S len cap : Nat)
  | mp (b : Nat)
  | fn (f : Fn) (first cap : List AV)
  | ifc (t : TypeId) (v : AV)
  | agg (cs : List AV)
  | tup (vs : List AV)
  | junk
  deriving Inhabited
def AV.cell : AV → Bool
  | .lit v => v.oneCell'
  | .agg _ | .tup _ | .junk => false
  | _ => true
structure Imm where
  cell : Nat → Nat → Option Value
  mp : Nat → Option (List MapEntry)
  cap : Nat → Option Nat
structure Imm.le (I J : Imm) : Prop where
  cell : ∀ b o v, I.cell b o = some v → J.cell b o = some v
  mp : ∀ b v, I.mp b = some v → J.mp b = some v
  cap : ∀ b v, I.cap b = some v → J.cap b = some v
theorem Imm.le.refl (I : Imm) : I.le I := ⟨fun _ _ _ h => h, fun _ _ h => h, fun _ _ h => h⟩
theorem Imm.le.trans {I J K : Imm} (h : I.le J) (k : J.le K) : I.le K :=
  ⟨fun b o v e => k.cell b o v (h.cell b o v e), fun b v e => k.mp b v (h.mp b v e), fun b v e => k.cap b v (h.cap b v e)⟩
def OwnOk (I : Imm) (own : Own) (ad : Addr) (len cap : Nat) : Prop :=
  (len = 0 ∨ ad.spot = none) ∧ len ≤ cap ∧ match own with
  | .any => True
  | .nil => False
  | .full => cap = len
  | .tok b => ad = ⟨b, 0, none⟩ ∧ I.cap b = some cap
theorem OwnOk.spot {I : Imm} {own : Own} {ad : Addr} {len cap : Nat} (h : OwnOk I own ad len cap) (hl : 0 < len) : ad.spot = none := h.1.resolve_left (by omega)
theorem OwnOk.mono {I J : Imm} (h : I.le J) {own : Own} {ad : Addr} {len cap : Nat} (k : OwnOk I own ad len cap) : OwnOk J own ad len cap := by
  obtain ⟨h1, h2, h3⟩ := k
  refine ⟨h1, h2, ?_⟩
  cases own with
  | any => trivial
  | nil => exact h3
  | full => exact h3
  | tok b => exact ⟨h3.1, h.cap _ _ h3.2⟩
inductive VR (I : Imm) : AV → Value → Prop
  | lit (v : Value) (h : v.oneCell' = true) : VR I (.lit v) v
  | junk (v : Value) : VR I .junk v
  | slnil (own : Own) (S : Nat) (h : own = .nil ∨ own = .any) : VR I (.sl own S []) (.slice none 0 0)
  | sl (own : Own) (S : Nat) (es : List (List AV)) (ad : Addr) (cap : Nat) (u : Nat → Nat → Value) (ho : OwnOk I own ad es.length cap) (hl : ∀ e ∈ es, e.length = S)
      (hcl : ∀ e ∈ es, ∀ a ∈ e, AV.cell a = true)
      (hc : ∀ i e j a, es[i]? = some e → e[j]? = some a → I.cell ad.block (ad.off + i * S + j) = some (u i j))
      (hv : ∀ i e j a, es[i]? = some e → e[j]? = some a → VR I a (u i j)) : VR I (.sl own S es) (.slice (some ad) es.length cap)
  | ip (cs : List AV) (ad : Addr) (u : Nat → Value) (hs : ad.spot = none) (hcl : ∀ a ∈ cs, AV.cell a = true) (hc : ∀ j a, cs[j]? = some a → I.cell ad.block (ad.off + j) = some (u j))
      (hv : ∀ j a, cs[j]? = some a → VR I a (u j)) : VR I (.ip cs) (.pointer (some ad))
  | im (ks : List CK) (agg : Bool) (es : List (List Value × AV)) (b : Nat) (ents : List MapEntry) (hb : I.mp b = some ents) (hl : ents.length = es.length)
      (hk : ∀ (i : Nat) (p : List Value × AV) (e : MapEntry), es[i]? = some p → ents[i]? = some e → kOks ks p.1 = true ∧ e.key = mkV agg p.1)
      (hv : ∀ (i : Nat) (p : List Value × AV) (e : MapEntry), es[i]? = some p → ents[i]? = some e → VR I p.2 e.val) : VR I (.im ks agg es) (.map (some b))
  | ptr (b off : Nat) : VR I (.ptr b off) (.pointer (some ⟨b, off, none⟩))
  | ms (b off S len cap : Nat) : VR I (.ms b off S len cap) (.slice (some ⟨b, off, none⟩) len cap)
  | mp (b : Nat) : VR I (.mp b) (.map (some b))
  | fn (f : Fn) (first cap : List AV) (vf vc : Array Value) (hf : vf.size = first.length) (hc : vc.size = cap.length)
      (h1 : ∀ i a, first[i]? = some a → VR I a (vf.getD i default)) (h2 : ∀ i a, cap[i]? = some a → VR I a (vc.getD i default)) : VR I (.fn f first cap) (.func f vf vc)
  | ifc (t : TypeId) (a : AV) (v : Value) (h : VR I a v) : VR I (.ifc t a) (.iface t v)
  | agg (cs : List AV) (vs : Array Value) (hsz : vs.size = cs.length) (hcl : ∀ a ∈ cs, AV.cell a = true) (h : ∀ i a, cs[i]? = some a → VR I a (vs.getD i default)) : VR I (.agg cs) (.agg vs)
  | tup (cs : List AV) (vs : Array Value) (hsz : vs.size = cs.length) (h : ∀ i a, cs[i]? = some a → VR I a (vs.getD i default)) : VR I (.tup cs) (.tuple vs)
theorem VR.mono {I J : Imm} (hIJ : I.le J) {a : AV} {v : Value} (h : VR I a v) : VR J a v := by
  induction h with
  | lit v h => exact .lit v h
  | junk v => exact .junk v
  | slnil own S h => exact .slnil own S h
  | sl own S es ad cap u ho hl hcl hc hv ih => exact .sl own S es ad cap u (ho.mono hIJ) hl hcl (fun i e j a h1 h2 => hIJ.cell _ _ _ (hc i e j a h1 h2)) ih
  | ip cs ad u hs hcl hc hv ih => exact .ip cs ad u hs hcl (fun j a h => hIJ.cell _ _ _ (hc j a h)) ih
  | im ks agg es b ents hb hl hk hv ihv => exact .im ks agg es b ents (hIJ.mp _ _ hb) hl hk ihv
  | ptr b off => exact .ptr b off
  | ms b off S len cap => exact .ms b off S len cap
  | mp b => exact .mp b
  | fn f first cap vf vc hf hc h1 h2 ih1 ih2 => exact .fn f first cap vf vc hf hc ih1 ih2
  | ifc t a v h ih => exact .ifc t a v ih
  | agg cs vs hsz hcl h ih => exact .agg cs vs hsz hcl ih
  | tup cs vs hsz h ih => exact .tup cs vs hsz ih
theorem VR.oneCell {I : Imm} {a : AV} {v : Value} (h : VR I a v) (hc : a.cell = true) : v.oneCell' = true := by
  cases h <;> first | assumption | rfl | (simp [AV.cell] at hc)
def VRs (I : Imm) (as : List AV) (vs : Array Value) : Prop := vs.size = as.length ∧ ∀ i a, as[i]? = some a → VR I a (vs.getD i default)
theorem VRs.mono {I J : Imm} (hIJ : I.le J) {as : List AV} {vs : Array Value} (h : VRs I as vs) : VRs J as vs := ⟨h.1, fun i a e => (h.2 i a e).mono hIJ⟩
def look : List (Nat × AV) → Nat → Option AV
  | [], _ => none
  | (k, v) :: r, i => match Nat.beq k i with
    | true => some v
    | false => look r i
inductive AObj where
  | row (cs : List AV)
  | tok (n S : Nat)
  | map (ks : List CK) (agg : Bool) (es : List (List Value × AV))
    | mark
    | loop (r : Loop) (tm : List (Nat × AV))
abbrev Heap := Nat → Option AObj
def Heap.upd (h : Heap) (b : Nat) (o : Option AObj) : Heap := fun k => if k = b then o else h k
@[simp] theorem Heap.upd_same (h : Heap) (b : Nat) (o : Option AObj) : h.upd b o b = o := by simp [Heap.upd]
theorem Heap.upd_other (h : Heap) {b k : Nat} (hk : k ≠ b) (o : Option AObj) : h.upd b o k = h k := by simp [Heap.upd, hk]
def Heap.le (h h' : Heap) : Prop := ∀ b o, h b = some o → h' b = some o
theorem Heap.le.refl (h : Heap) : h.le h := fun _ _ e => e
theorem Heap.le.trans {a b c : Heap} (h : a.le b) (k : b.le c) : a.le c := fun x o e => k x o (h x o e)
theorem Heap.le.upd {a b : Heap} (h : a.le b) {k : Nat} (hk : b k = none) (o : Option AObj) : a.le (b.upd k o) := by
  intro x u e
  have := h x u e
  by_cases hx : x = k
  · subst hx; rw [hk] at this; cases this
  · rw [Heap.upd_other _ hx]; exact this
def AObj.locked : AObj → Bool
  | .mark | .loop _ _ => true
  | _ => false
def Loop.same (r s : Loop) : Prop := r.fn = s.fn ∧ r.tmps = s.tmps ∧ r.params = s.params ∧ r.assign = s.assign ∧ r.body = s.body ∧ r.defers = s.defers
def AObj.sim : AObj → AObj → Prop
  | .mark, .mark => True
  | .loop r tm, .loop s tm' => Loop.same r s ∧ tm = tm'
  | _, _ => False
theorem AObj.sim_refl {o : AObj} (h : o.locked = true) : o.sim o := by
  cases o <;> simp [AObj.locked] at h
  · trivial
  · exact ⟨⟨rfl, rfl, rfl, rfl, rfl, rfl⟩, rfl⟩
theorem AObj.sim_trans {a b c : AObj} (h : a.sim b) (k : b.sim c) : a.sim c := by
  cases a <;> cases b <;> first | exact h.elim | skip
  · cases c <;> first | exact k.elim | trivial
  · cases c <;> first | exact k.elim | skip
    obtain ⟨⟨h1, h2, h3, h4, h5, h6⟩, h7⟩ := h
    obtain ⟨⟨k1, k2, k3, k4, k5, k6⟩, k7⟩ := k
    exact ⟨⟨h1.trans k1, h2.trans k2, h3.trans k3, h4.trans k4, h5.trans k5, h6.trans k6⟩, h7.trans k7⟩
theorem AObj.sim_locked {a b : AObj} (h : a.sim b) : a.locked = true ∧ b.locked = true := by
  cases a <;> cases b <;> first | exact h.elim | exact ⟨rfl, rfl⟩
theorem AObj.sim_mark {b : AObj} (h : AObj.mark.sim b) : b = .mark := by
  cases b <;> first | exact h.elim | rfl
def LockKept (h h' : Heap) : Prop := ∀ b o, h b = some o → o.locked = true → ∃ o', h' b = some o' ∧ o.sim o'
theorem LockKept.refl (h : Heap) : LockKept h h := fun _ o e hl => ⟨o, e, AObj.sim_refl hl⟩
theorem LockKept.trans {a b c : Heap} (h : LockKept a b) (k : LockKept b c) : LockKept a c := fun x o e hl => by
  obtain ⟨o', e', s⟩ := h x o e hl
  obtain ⟨o2, e2, s2⟩ := k x o' e' (AObj.sim_locked s).2
  exact ⟨o2, e2, AObj.sim_trans s s2⟩
def ObjR (I : Imm) (w : World) (b : Nat) : AObj → Prop
  | .row cs => ∃ arr e, w.heap[b]? = some (.cells arr e (0, 0)) ∧ cs.length ≤ arr.size ∧ (∀ a ∈ cs, AV.cell a = true) ∧ (∀ i a, cs[i]? = some a → VR I a (arr.getD i default)) ∧ (∀ i, I.cell b i = none)
  | .tok n S => ∃ arr e cap, w.heap[b]? = some (.cells arr e (0, 0)) ∧ I.cap b = some cap ∧ arr.size = cap * S ∧ n ≤ cap ∧ ∀ i, n * S ≤ i → I.cell b i = none
  | .map ks agg es => ∃ ents clock, w.heap[b]? = some (.map ents clock) ∧ ents.size = es.length ∧
      (∀ (i : Nat) (p : List Value × AV) (e : MapEntry), es[i]? = some p → ents[i]? = some e → kOks ks p.1 = true ∧ e.key = mkV agg p.1 ∧ VR I p.2 e.val) ∧ I.mp b = none
  | .mark => w.heap[b]? = some (.deferred (some []))
  | .loop r tm => w.heap[b]? = some (.loop r) ∧ ∀ k v, look tm k = some v → VR I v (r.tmps.getD k (.tuple #[]))
structure WR (base : Nat) (I : Imm) (h : Heap) (w : World) : Prop where
  cell : ∀ b o v, I.cell b o = some v → w.cell? ⟨b, o, none⟩ = some v
  map : ∀ b ents, I.mp b = some ents → ∃ clock, w.heap[b]? = some (.map ents.toArray clock)
  obj : ∀ b o, h b = some o → base ≤ b ∧ ObjR I w b o
  capLt : ∀ b c, I.cap b = some c → b < w.heap.size
structure AS where
  n : Nat
  tm : List (Nat × AV)
  h : Heap
  ms : List Nat
  h0 : Heap
theorem look_cons (k : Nat) (v : AV) (r : List (Nat × AV)) (i : Nat) : look ((k, v) :: r) i = if k = i then some v else look r i := by
  simp only [look]
  by_cases h : k = i
  · subst h; simp
  · rw [if_neg h, show Nat.beq k i = false from by cases e : Nat.beq k i with | false => rfl | true => exact absurd (Nat.eq_of_beq_eq_true e) h]
def del (d : Nat) : List (Nat × AV) → List (Nat × AV)
  | [] => []
  | (k, v) :: r => match Nat.beq k d with
    | true => del d r
    | false => (k, v) :: del d r
theorem look_del_ne {d i : Nat} (h : i ≠ d) (l : List (Nat × AV)) : look (del d l) i = look l i := by
  induction l with
  | nil => rfl
  | cons p r ih =>
    obtain ⟨k, v⟩ := p
    simp only [del]
    split
    · rename_i hk
      have : k = d := Nat.eq_of_beq_eq_true hk
      rw [look_cons, if_neg (by omega), ih]
    · rw [look_cons, look_cons, ih]
theorem look_del_same (d : Nat) (l : List (Nat × AV)) : look (del d l) d = none := by
  induction l with
  | nil => rfl
  | cons p r ih =>
    obtain ⟨k, v⟩ := p
    simp only [del]
    split
    · exact ih
    · rename_i hk
      rw [look_cons, if_neg (fun e => by subst e; simp at hk), ih]
def AS.put (σ : AS) (d : Nat) (v : AV) : AS := { σ with tm := (d, v) :: σ.tm }
def AS.putO (σ : AS) (d : Option Nat) (v : AV) : AS := match d with | some d => σ.put d v | none => σ
def AS.drop (σ : AS) (d : Option Nat) : AS := match d with | some d => { σ with tm := del d σ.tm } | none => σ
def AS.setH (σ : AS) (h : Heap) : AS := { σ with h := h }
structure G where
  base : Nat
  w0 : World
  I0 : Imm
structure MarkR (σ : AS) (a : Act) : Prop where
  defs : a.defers = σ.ms.map (fun r => { target := .collected r, args := #[] })
  nodup : σ.ms.Nodup
  here : ∀ r ∈ σ.ms, σ.h r = some .mark
  keep : LockKept σ.h0 σ.h
  apart : ∀ r ∈ σ.ms, ∀ o, σ.h0 r = some o → o.locked = false
structure SR (g : G) (I : Imm) (σ : AS) (a : Act) (w : World) : Prop where
  le : g.I0.le I
  below : Blw g.base g.w0 w
  base : g.base ≤ g.w0.heap.size
  wr : WR g.base I σ.h w
  size : a.tmps.size = σ.n
  slot : ∀ k v, look σ.tm k = some v → VR I v (a.tmps.getD k undef)
  marks : MarkR σ a
end Go.AM
end
section
namespace Go.AM
open Go.RowKit
def WF (ρ : Option Nat) : Fence := { Fence.wide with round := ρ }
theorem WF_room (ρ : Option Nat) (k : Nat) : (WF ρ).room k := fun _ h => by simp [WF, Fence.wide] at h
theorem VR.lit_inv {I : Imm} {v u : Value} (h : VR I (.lit v) u) : u = v := by cases h; rfl
theorem exists_least {p : Nat → Prop} (h : ∃ n, p n) : ∃ n, p n ∧ ∀ m, p m → n ≤ m := by
  obtain ⟨n, hn⟩ := h
  induction n using Nat.strongRecOn with
  | _ n ih =>
    by_cases hm : ∃ m, m < n ∧ p m
    · obtain ⟨m, hlt, hp⟩ := hm
      exact ih m hlt hp
    · exact ⟨n, hn, fun m hp => Nat.le_of_not_lt fun hlt => hm ⟨m, hlt, hp⟩⟩
def CQ (g : G) (Q : Exit → AS → Prop) (e : Exit) (a : Act) (w : World) : Prop := ∃ I σ, SR g I σ a w ∧ Q e σ
def AW (P : Program) (ρ : Option Nat) (c : Code) (Q : Exit → AS → Prop) (σ : AS) : Prop :=
  ∀ g I a w, SR g I σ a w → c.wpIn (WF ρ) 0 P (CQ g Q) a w
def AL (P : Program) (ρ : Option Nat) (ops : Array Oper) (l : List Oper) (Q : Exit → AS → Prop) (σ : AS) : Prop :=
  ∀ g I a w (idx : List Nat), idx.map (fun i => ops[i]?) = l.map some → SR g I σ a w → wpOpsIn (WF ρ) 0 P ops (CQ g Q) idx a w
def AO (P : Program) (ρ : Option Nat) (o : Oper) (K : AS → Prop) (Q : Exit → AS → Prop) (σ : AS) : Prop :=
  ∀ g I a w, SR g I σ a w → o.wpIn (WF ρ) 0 P a w (fun a' w' => ∃ I' σ', SR g I' σ' a' w' ∧ K σ') (CQ g Q)
def sq (K : AS → Prop) (Q : Exit → AS → Prop) : Exit → AS → Prop
  | .normal, σ => K σ
  | e, σ => Q e σ
def bq (id : Nat) (Q : Exit → AS → Prop) : Exit → AS → Prop
  | .exit id', σ => if id' = id then Q .normal σ else Q (.exit id') σ
  | e, σ => Q e σ
theorem CQ.mono {g : G} {Q Q' : Exit → AS → Prop} (h : ∀ e σ, Q e σ → Q' e σ) {e : Exit} {a : Act} {w : World} (k : CQ g Q e a w) : CQ g Q' e a w := by
  obtain ⟨I, σ, h1, h2⟩ := k
  exact ⟨I, σ, h1, h _ _ h2⟩
section
variable {P : Program} {ρ : Option Nat} {Q : Exit → AS → Prop} {σ : AS}
theorem AW_mono {c : Code} {Q' : Exit → AS → Prop} (h : AW P ρ c Q σ) (hq : ∀ e σ, Q e σ → Q' e σ) : AW P ρ c Q' σ :=
  fun g I a w hs => wpIn_mono (h g I a w hs) fun _ _ _ k => k.mono hq
theorem AW_skip (h : Q .normal σ) : AW P ρ .skip Q σ := fun _ I _ _ hs => wpIn_skip ⟨I, σ, hs, h⟩
theorem AW_label {l : Nat} (h : Q .normal σ) : AW P ρ (.label l) Q σ := fun _ I _ _ hs => wpIn_label ⟨I, σ, hs, h⟩
theorem AW_exit {id : Nat} (h : Q (.exit id) σ) : AW P ρ (.exit id) Q σ := fun _ I _ _ hs => wpIn_exit ⟨I, σ, hs, h⟩
theorem AW_goto {l : Nat} (h : Q (.goto l) σ) : AW P ρ (.goto l) Q σ := fun _ I _ _ hs => wpIn_goto ⟨I, σ, hs, h⟩
theorem AW_ret (h : Q .ret σ) : AW P ρ .ret Q σ := fun _ I _ _ hs => wpIn_ret ⟨I, σ, hs, h⟩
theorem AW_seq {x y : Code} (h : AW P ρ x (sq (AW P ρ y Q) Q) σ) : AW P ρ (.seq x y) Q σ := by
  intro g I a w hs
  refine wpIn_seq (wpIn_mono (h g I a w hs) ?_)
  rintro e a' w' ⟨I', σ', hs', hq⟩
  cases e with
  | normal => exact hq g I' a' w' hs'
  | exit id => exact ⟨I', σ', hs', hq⟩
  | goto l => exact ⟨I', σ', hs', hq⟩
  | ret => exact ⟨I', σ', hs', hq⟩
  | panic ch => exact ⟨I', σ', hs', hq⟩
  | outgrown => exact ⟨I', σ', hs', hq⟩
theorem AW_cut {x y : Code} (M : AS → Prop) (h : AW P ρ x (sq M Q) σ) (k : ∀ σ', M σ' → AW P ρ y Q σ') : AW P ρ (.seq x y) Q σ := by
  refine AW_seq (AW_mono h ?_)
  intro e σ' hq
  cases e with
  | normal => exact k σ' hq
  | exit id => exact hq
  | goto l => exact hq
  | ret => exact hq
  | panic ch => exact hq
  | outgrown => exact hq
theorem SR.eval_tmp {g : G} {I : Imm} {a : Act} {w : World} (h : SR g I σ a w) {t : Nat} {v : AV} (e : look σ.tm t = some v) : VR I v (a.eval (.tmp t)) := by
  have := h.slot t v e
  simpa [Act.eval] using this
theorem AW_cond {c : Nat} {x y : Code} (t : Bool) (hc : look σ.tm c = some (.lit (.bool t))) (h1 : t = true → AW P ρ x Q σ) (h2 : t = false → AW P ρ y Q σ) : AW P ρ (.cond (.tmp c) x y) Q σ := by
  intro g I a w hs
  exact wpIn_cond_split (t := t) (VR.lit_inv (hs.eval_tmp hc)) (fun e => h1 e g I a w hs) (fun e => h2 e g I a w hs)
theorem AW_block {id : Nat} {c : Code} (h : AW P ρ c (bq id Q) σ) : AW P ρ (.block id c) Q σ := by
  intro g I a w hs
  refine wpIn_block (wpIn_mono (h g I a w hs) ?_)
  rintro e a' w' ⟨I', σ', hs', hq⟩
  cases e with
  | normal => exact ⟨I', σ', hs', hq⟩
  | exit id' =>
    simp only [Exit.inBlock, bq] at hq ⊢
    split
    · rename_i e; rw [if_pos e] at hq; exact ⟨I', σ', hs', hq⟩
    · rename_i e; rw [if_neg e] at hq; exact ⟨I', σ', hs', hq⟩
  | goto l => exact ⟨I', σ', hs', hq⟩
  | ret => exact ⟨I', σ', hs', hq⟩
  | panic ch => exact ⟨I', σ', hs', hq⟩
  | outgrown => exact ⟨I', σ', hs', hq⟩
open Classical in
theorem AW_loop {c : Code} (Inv : Nat → AS → Prop) (n0 : Nat) (h0 : Inv n0 σ) (round : ∀ n σ, Inv n σ → AW P ρ c (sq (fun σ' => ∃ m, m < n ∧ Inv m σ') Q) σ) : AW P ρ (.loop c) Q σ := by
  intro g I a w hs
  let R : Nat → Act → World → Prop := fun n a w => ∃ I σ, SR g I σ a w ∧ Inv n σ
  let μ : Act → World → Nat := fun a w => if h : ∃ n, R n a w then (exists_least h).choose else 0
  refine wpIn_loop (fun a w => ∃ n, R n a w) μ ⟨n0, I, σ, hs, h0⟩ ?_
  intro a w hex
  have hμ : μ a w = (exists_least hex).choose := dif_pos hex
  obtain ⟨I1, σ1, hs1, hi1⟩ := (exists_least hex).choose_spec.1
  refine wpIn_mono (round _ σ1 hi1 g I1 a w hs1) ?_
  rintro e a' w' ⟨I', σ', hs', hq⟩
  cases e with
  | normal =>
    obtain ⟨m, hm, hi⟩ := hq
    have hex' : ∃ n, R n a' w' := ⟨m, I', σ', hs', hi⟩
    refine ⟨hex', ?_⟩
    have hμ' : μ a' w' = (exists_least hex').choose := dif_pos hex'
    rw [hμ, hμ']
    exact Nat.lt_of_le_of_lt ((exists_least hex').choose_spec.2 m ⟨I', σ', hs', hi⟩) hm
  | exit id => exact ⟨I', σ', hs', hq⟩
  | goto l => exact ⟨I', σ', hs', hq⟩
  | ret => exact ⟨I', σ', hs', hq⟩
  | panic ch => exact ⟨I', σ', hs', hq⟩
  | outgrown => exact ⟨I', σ', hs', hq⟩
/-! Ghost steps: another abstract state of the same concrete one. -/
def Ghost (σ σ' : AS) : Prop := ∀ g I a w, SR g I σ a w → ∃ I', SR g I' σ' a w
theorem AW_ghost {c : Code} {σ' : AS} (h : Ghost σ σ') (k : AW P ρ c Q σ') : AW P ρ c Q σ := fun g I a w hs => let ⟨I', hs'⟩ := h g I a w hs; k g I' a w hs'
theorem AL_ghost {ops : Array Oper} {l : List Oper} {σ' : AS} (h : Ghost σ σ') (k : AL P ρ ops l Q σ') : AL P ρ ops l Q σ := fun g I a w idx hi hs => let ⟨I', hs'⟩ := h g I a w hs; k g I' a w idx hi hs'
theorem Ghost.trans {a b c : AS} (h : Ghost a b) (k : Ghost b c) : Ghost a c := fun g I x w hs => let ⟨I', hs'⟩ := h g I x w hs; k g I' x w hs'
structure Sub (σ' σ : AS) : Prop where
  n : σ'.n = σ.n
  ms : σ'.ms = σ.ms
  h0 : σ'.h0 = σ.h0
  h : σ'.h = σ.h
  tm : ∀ k v, look σ'.tm k = some v → look σ.tm k = some v
theorem Sub.ghost {σ σ' : AS} (h : Sub σ' σ) : Ghost σ σ' := fun g I a w hs => by
  obtain ⟨n, tm, hh, ms, h0⟩ := σ'
  obtain ⟨rfl, rfl, rfl, rfl, ht⟩ := h
  exact ⟨I, hs.le, hs.below, hs.base, hs.wr, hs.size, fun k v e => hs.slot k v (ht k v e), ⟨hs.marks.defs, hs.marks.nodup, hs.marks.here, hs.marks.keep, hs.marks.apart⟩⟩
theorem sub_look {tm : List (Nat × AV)} : ∀ (tm' : List (Nat × AV)), (∀ p ∈ tm', look tm p.1 = some p.2) → ∀ k v, look tm' k = some v → look tm k = some v := by
  intro tm'
  induction tm' with
  | nil => intro _ k v h; cases h
  | cons p r ih =>
    intro h k v e
    obtain ⟨q, x⟩ := p
    rw [look_cons] at e
    by_cases hq : q = k
    · rw [if_pos hq] at e
      have := h (q, x) (List.mem_cons_self ..)
      injection e with e
      rw [← hq, ← e]; exact this
    · rw [if_neg hq] at e
      exact ih (fun p hp => h p (List.mem_cons_of_mem _ hp)) k v e
theorem Sub.mk_ {n : Nat} {tm tm' : List (Nat × AV)} {h h0 : Heap} {ms : List Nat} (ht : ∀ p ∈ tm', look tm p.1 = some p.2) : Sub ⟨n, tm', h, ms, h0⟩ ⟨n, tm, h, ms, h0⟩ := ⟨rfl, rfl, rfl, rfl, sub_look tm' ht⟩
/-! ### Regions in the order of the text -/
theorem AL_mono {ops : Array Oper} {l : List Oper} {Q' : Exit → AS → Prop} (h : AL P ρ ops l Q σ) (hq : ∀ e σ, Q e σ → Q' e σ) : AL P ρ ops l Q' σ := by
  intro g I a w idx hi hs
  have := h g I a w idx hi hs
  clear hi
  revert this
  suffices H : ∀ idx a w, wpOpsIn (WF ρ) 0 P ops (CQ g Q) idx a w → wpOpsIn (WF ρ) 0 P ops (CQ g Q') idx a w from H idx a w
  intro idx
  induction idx with
  | nil => exact fun a w h => h.mono hq
  | cons i rest ih =>
    intro a w h
    simp only [wpOpsIn] at h ⊢
    cases ho : ops[i]? with
    | none => rw [ho] at h; exact ih _ _ h
    | some o =>
      rw [ho] at h
      dsimp only at h ⊢
      by_cases hw : Region.wanted o (yielded ops a.tmps) = true
      · rw [if_pos hw] at h ⊢
        refine ⟨h.1, ?_⟩
        have h2 := h.2
        unfold Oper.uponIn at h2 ⊢
        split at h2
        · exact ih _ _ h2
        · exact ih _ _ h2
        · exact ih _ _ h2
        · refine ⟨h2.1, h2.2.mono ?_⟩
          intro e w' hR
          cases e with
          | returned v => exact ih _ _ hR
          | panicked ch => exact CQ.mono hq hR
          | outgrown => obtain ⟨a, w, k⟩ := hR; exact ⟨a, w, k.mono hq⟩
        · exact ⟨h2.1, h2.2.mono fun v w' hR => ih _ _ hR⟩
        · refine ⟨h2.1, h2.2.mono ?_⟩
          intro e w' hR
          cases e with
          | returned v => exact ih _ _ hR
          | panicked ch => exact CQ.mono hq hR
          | outgrown => obtain ⟨a, w, k⟩ := hR; exact ⟨a, w, k.mono hq⟩
        · exact CQ.mono hq h2
        · exact h2
      · rw [if_neg hw] at h ⊢
        exact ⟨h.1, ih _ _ h.2⟩
theorem range_map (ops : Array Oper) : (List.range ops.size).map (fun i => ops[i]?) = ops.toList.map some := by
  apply List.ext_getElem
  · simp
  · intro i h1 h2
    simp at h1 h2
    simp [h1]
theorem AW_region {id : Nat} {ops : Array Oper} {l : List Oper} (hl : ops.toList = l) (h : AL P ρ ops l Q σ) : AW P ρ (.region id ops false) Q σ := by
  subst hl
  exact fun g I a w hs => wpIn_region (h g I a w _ (range_map ops) hs)
theorem AL_nil {ops : Array Oper} (h : Q .normal σ) : AL P ρ ops [] Q σ := by
  intro g I a w idx hi hs
  have : idx = [] := by cases idx with | nil => rfl | cons => simp at hi
  subst this
  exact ⟨I, σ, hs, h⟩
theorem AL_cons {ops : Array Oper} {o : Oper} {l : List Oper} (K : AS → Prop) (hg : o.guard = none) (ho : AO P ρ o K Q σ) (h : ∀ σ', K σ' → AL P ρ ops l Q σ') : AL P ρ ops (o :: l) Q σ := by
  intro g I a w idx hi hs
  cases idx with
  | nil => simp at hi
  | cons i idx =>
    simp only [List.map_cons, List.cons.injEq] at hi
    simp only [wpOpsIn, hi.1]
    rw [if_pos (by simp [Region.wanted, hg])]
    have hw := ho g I a w hs
    refine ⟨hw.1, ?_⟩
    have h2 := hw.2
    have hn : ∀ a' w', (∃ I' σ', SR g I' σ' a' w' ∧ K σ') → wpOpsIn (WF ρ) 0 P ops (CQ g Q) idx a' w' :=
      fun a' w' ⟨I', σ', hs', hK⟩ => h σ' hK g I' a' w' idx hi.2 hs'
    unfold Oper.uponIn at h2 ⊢
    split at h2
    · exact hn _ _ h2
    · exact hn _ _ h2
    · exact hn _ _ h2
    · refine ⟨h2.1, h2.2.mono ?_⟩
      intro e w' hR
      cases e with
      | returned v => exact hn _ _ hR
      | panicked ch => exact hR
      | outgrown => exact hR
    · exact ⟨h2.1, h2.2.mono fun v w' hR => hn _ _ hR⟩
    · refine ⟨h2.1, h2.2.mono ?_⟩
      intro e w' hR
      cases e with
      | returned v => exact hn _ _ hR
      | panicked ch => exact hR
      | outgrown => exact hR
    · exact h2
    · exact h2
theorem SR.put {g : G} {I : Imm} {a : Act} {w : World} (h : SR g I σ a w) (d : Nat) (hd : d < σ.n) {v : AV} {u : Value} (hv : VR I v u) : SR g I (σ.put d v) (a.put (some d) u) w := by
  refine ⟨h.le, h.below, h.base, h.wr, by simp [Act.put, AS.put, h.size], fun k x e => ?_, ⟨h.marks.defs, h.marks.nodup, h.marks.here, h.marks.keep, h.marks.apart⟩⟩
  simp only [AS.put, look_cons] at e
  have hds : d < a.tmps.size := by rw [h.size]; exact hd
  by_cases hk : d = k
  · rw [if_pos hk] at e
    injection e with e
    subst hk; subst e
    simpa [Act.put, Array.getD_eq_getD_getElem?, Array.getElem?_setIfInBounds, hds] using hv
  · rw [if_neg hk] at e
    have := h.slot k x e
    simpa [Act.put, Array.getD_eq_getD_getElem?, Array.getElem?_setIfInBounds, hk] using this
theorem SR.putJ {g : G} {I : Imm} {a : Act} {w : World} (h : SR g I σ a w) (d : Option Nat) (u : Value) : SR g I (σ.drop d) (a.put d u) w := by
  cases d with
  | none => exact h
  | some d =>
    refine ⟨h.le, h.below, h.base, h.wr, by simp [Act.put, AS.drop, h.size], fun k x e => ?_, ⟨h.marks.defs, h.marks.nodup, h.marks.here, h.marks.keep, h.marks.apart⟩⟩
    have hk : k ≠ d := by
      intro hk
      subst hk
      rw [show (σ.drop (some k)).tm = del k σ.tm from rfl, look_del_same] at e
      cases e
    rw [show (σ.drop (some d)).tm = del d σ.tm from rfl, look_del_ne hk] at e
    have := h.slot k x e
    simpa [Act.put, Array.getD_eq_getD_getElem?, Array.getElem?_setIfInBounds, Ne.symm hk] using this
theorem AL_skip {ops : Array Oper} {o o' : Oper} {l : List Oper} {j t : Nat} {b want : Bool} (hg : o.guard = some (j, want)) (hj : ops[j]? = some o') (ht : o'.dst = some t)
    (hb : look σ.tm t = some (.lit (.bool b))) (hne : b ≠ want) (h : AL P ρ ops l Q (σ.drop o.dst)) : AL P ρ ops (o :: l) Q σ := by
  intro g I a w idx hi hs
  cases idx with
  | nil => simp at hi
  | cons i idx =>
    simp only [List.map_cons, List.cons.injEq] at hi
    simp only [wpOpsIn, hi.1]
    have hv := hs.slot t _ hb
    have hlt : t < a.tmps.size := by
      rcases Nat.lt_or_ge t a.tmps.size with h | h
      · exact h
      · rw [Array.getD_eq_getD_getElem?, Array.getElem?_eq_none h] at hv
        cases hv
    have hy : yielded ops a.tmps j = some b := by
      simp only [yielded, hj, Option.bind_some, ht]
      rw [Array.getD_eq_getD_getElem?, Array.getElem?_eq_getElem hlt] at hv
      rw [Array.getElem?_eq_getElem hlt]
      simp only [Option.getD_some] at hv
      generalize a.tmps[t] = u at hv
      cases hv
      rfl
    rw [if_neg (by simp [Region.wanted, hg, hy, hne])]
    exact ⟨fun _ _ => trivial, h g I _ w idx hi.2 (hs.putJ o.dst undef)⟩
theorem AL_want {ops : Array Oper} {o o' : Oper} {l : List Oper} {j t : Nat} {b : Bool} (K : AS → Prop) (hg : o.guard = some (j, b)) (hj : ops[j]? = some o') (ht : o'.dst = some t)
    (hb : look σ.tm t = some (.lit (.bool b))) (ho : AO P ρ o K Q σ) (h : ∀ σ', K σ' → AL P ρ ops l Q σ') : AL P ρ ops (o :: l) Q σ := by
  intro g I a w idx hi hs
  cases idx with
  | nil => simp at hi
  | cons i idx =>
    simp only [List.map_cons, List.cons.injEq] at hi
    simp only [wpOpsIn, hi.1]
    have hv := hs.slot t _ hb
    have hlt : t < a.tmps.size := by
      rcases Nat.lt_or_ge t a.tmps.size with h | h
      · exact h
      · rw [Array.getD_eq_getD_getElem?, Array.getElem?_eq_none h] at hv
        cases hv
    have hy : yielded ops a.tmps j = some b := by
      simp only [yielded, hj, Option.bind_some, ht]
      rw [Array.getD_eq_getD_getElem?, Array.getElem?_eq_getElem hlt] at hv
      rw [Array.getElem?_eq_getElem hlt]
      simp only [Option.getD_some] at hv
      generalize a.tmps[t] = u at hv
      cases hv
      rfl
    rw [if_pos (by simp [Region.wanted, hg, hy])]
    have hw := ho g I a w hs
    refine ⟨hw.1, ?_⟩
    have h2 := hw.2
    have hn : ∀ a' w', (∃ I' σ', SR g I' σ' a' w' ∧ K σ') → wpOpsIn (WF ρ) 0 P ops (CQ g Q) idx a' w' :=
      fun a' w' ⟨I', σ', hs', hK⟩ => h σ' hK g I' a' w' idx hi.2 hs'
    unfold Oper.uponIn at h2 ⊢
    split at h2
    · exact hn _ _ h2
    · exact hn _ _ h2
    · exact hn _ _ h2
    · refine ⟨h2.1, h2.2.mono ?_⟩
      intro e w' hR
      cases e with
      | returned v => exact hn _ _ hR
      | panicked ch => exact hR
      | outgrown => exact hR
    · exact ⟨h2.1, h2.2.mono fun v w' hR => hn _ _ hR⟩
    · refine ⟨h2.1, h2.2.mono ?_⟩
      intro e w' hR
      cases e with
      | returned v => exact hn _ _ hR
      | panicked ch => exact hR
      | outgrown => exact hR
    · exact h2
    · exact h2
end
end Go.AM
end
