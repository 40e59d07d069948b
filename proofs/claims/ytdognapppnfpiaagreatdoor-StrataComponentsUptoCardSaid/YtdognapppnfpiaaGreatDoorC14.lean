/- A part of the proof: walks of the code and laws that they use (Sh, So, Ta, W0, W2, Nk, W3, Nl, W5, Oa, Nm, Pa, Pb, Pc, Pd, Pe, No). Conditions: as each theorem names them. -/
import Derived.Ground.SlsfProg
import Derived.Shelf.SlSortCmp.NoneTotal
import Derived.Test.YtdognapppnfpiaaGreatDoorC13
section
namespace Go.Proofs
open Go.Shelf
def Tryz.laysSlF6_f14_ren : Go.Shelf.Ren := ⟨fun | 6 => 14 | 15 => 36 | 14 => 35 | 28 => 56 | 29 => 57 | 20 => 48 | 21 => 49 | 22 => 50 | 23 => 51 | 24 => 52 | 25 => 53 | 26 => 54 | 27 => 55 | 46 => 70 | 47 => 71 | 48 => 72 | 49 => 73 | 50 => 74 | 57 => 80 | n => n, fun | 22 => 46 | 24 => 3 | 25 => 60 | 3 => 3 | 39 => 91 | 0 => 0 | 53 => 113 | 55 => 115 | 4 => 4 | 46 => 107 | 45 => 106 | 50 => 82 | 5 => 5 | 9 => 9 | 66 => 125 | 70 => 129 | 76 => 134 | 77 => 135 | n => n, fun | n => n⟩
theorem Tryz.laysSlF6_f14 : Go.Proofs.SlLaysF.n6 Tryz.prog Tryz.laysSlF6_f14_ren := {
  mixed := by kernel_rfl
  f6 := ⟨Tryz.f14.name, by decide, Tryz.func14.trans (congrArg some (by kernel_rfl))⟩
  f14 := ⟨Tryz.f35.name, by decide, Tryz.func35.trans (congrArg some (by kernel_rfl))⟩
  f15 := Tryz.func36.trans (congrArg some (by kernel_rfl))
  f20 := ⟨Tryz.f48.name, by decide, Tryz.func48.trans (congrArg some (by kernel_rfl))⟩
  f21 := ⟨Tryz.f49.name, by decide, Tryz.func49.trans (congrArg some (by kernel_rfl))⟩
  f22 := ⟨Tryz.f50.name, by decide, Tryz.func50.trans (congrArg some (by kernel_rfl))⟩
  f23 := ⟨Tryz.f51.name, by decide, Tryz.func51.trans (congrArg some (by kernel_rfl))⟩
  f24 := ⟨Tryz.f52.name, by decide, Tryz.func52.trans (congrArg some (by kernel_rfl))⟩
  f25 := ⟨Tryz.f53.name, by decide, Tryz.func53.trans (congrArg some (by kernel_rfl))⟩
  f26 := ⟨Tryz.f54.name, by decide, Tryz.func54.trans (congrArg some (by kernel_rfl))⟩
  f27 := ⟨Tryz.f55.name, by decide, Tryz.func55.trans (congrArg some (by kernel_rfl))⟩
  f28 := Tryz.func56.trans (congrArg some (by kernel_rfl))
  f29 := Tryz.func57.trans (congrArg some (by kernel_rfl))
  f46 := ⟨Tryz.f70.name, by decide, Tryz.func70.trans (congrArg some (by kernel_rfl))⟩
  f47 := Tryz.func71.trans (congrArg some (by kernel_rfl))
  f48 := Tryz.func72.trans (congrArg some (by kernel_rfl))
  f49 := ⟨Tryz.f73.name, by decide, Tryz.func73.trans (congrArg some (by kernel_rfl))⟩
  f50 := ⟨Tryz.f74.name, by decide, Tryz.func74.trans (congrArg some (by kernel_rfl))⟩
  f57 := ⟨Tryz.f80.name, by decide, Tryz.func80.trans (congrArg some (by kernel_rfl))⟩
  t0 := Tryz.underlying0
  a0 := Tryz.isAgg0
  z0 := Tryz.sizeOf0
  v0 := Tryz.zeroValue0
  t3 := Tryz.underlying3
  a3 := Tryz.isAgg3
  z3 := Tryz.sizeOf3
  v3 := Tryz.zeroValue3
  t4 := Tryz.underlying4
  a4 := Tryz.isAgg4
  z4 := Tryz.sizeOf4
  v4 := Tryz.zeroValue4
  t5 := Tryz.underlying5
  a5 := Tryz.isAgg5
  z5 := Tryz.sizeOf5
  v5 := Tryz.zeroValue5
  t9 := Tryz.underlying9
  a9 := Tryz.isAgg9
  z9 := Tryz.sizeOf9
  v9 := Tryz.zeroValue9
  t22 := Tryz.underlying46
  a22 := Tryz.isAgg46
  z22 := Tryz.sizeOf46
  v22 := Tryz.zeroValue46
  a24 := Tryz.isAgg3
  z24 := Tryz.sizeOf3
  t25 := Tryz.underlying60
  a25 := Tryz.isAgg60
  z25 := Tryz.sizeOf60
  v25 := Tryz.zeroValue60
  t39 := Tryz.underlying91
  a39 := Tryz.isAgg91
  z39 := Tryz.sizeOf91
  v39 := Tryz.zeroValue91
  t45 := Tryz.underlying106
  a45 := Tryz.isAgg106
  z45 := Tryz.sizeOf106
  v45 := Tryz.zeroValue106
  t46 := Tryz.underlying107
  a46 := Tryz.isAgg107
  z46 := Tryz.sizeOf107
  v46 := Tryz.zeroValue107
  t50 := Tryz.underlying82
  a50 := Tryz.isAgg82
  z50 := Tryz.sizeOf82
  v50 := Tryz.zeroValue82
  t53 := Tryz.underlying113
  a53 := Tryz.isAgg113
  z53 := Tryz.sizeOf113
  v53 := Tryz.zeroValue113
  t55 := Tryz.underlying115
  a55 := Tryz.isAgg115
  z55 := Tryz.sizeOf115
  v55 := Tryz.zeroValue115
  t66 := Tryz.underlying125
  a66 := Tryz.isAgg125
  z66 := Tryz.sizeOf125
  v66 := Tryz.zeroValue125
  t70 := Tryz.underlying129
  a70 := Tryz.isAgg129
  z70 := Tryz.sizeOf129
  v70 := Tryz.zeroValue129
  t76 := Tryz.underlying134
  a76 := Tryz.isAgg134
  z76 := Tryz.sizeOf134
  v76 := Tryz.zeroValue134
  t77 := Tryz.underlying135
  a77 := Tryz.isAgg135
  z77 := Tryz.sizeOf135
  v77 := Tryz.zeroValue135 }
open Go.RowKit Go.Lib Go.Sort in
theorem Tryz.slices_SortFunc_total {α : Type} [Inhabited α] (enc : α → Value) (h1 : OneCell enc) (cf : α → α → Int) (hO : SWO (ltOf cf)) (g : Nat) (cb : Array Value) (blk off cap : Nat) (d : Array α) (w : World) (eg : ∀ args w, (callFunc g args).run Tryz.prog w = .ok (.enter g args) w) (hcmp : CmpLays1 Tryz.prog g cb enc cf blk off d.size w) (hH : Holds enc w blk off d) (hblk : blk < w.heap.size) (hsz : d.size < 4611686018427387904) (hT : ∀ x y, (ltOf cf) x y = false → (ltOf cf) y x = false → x = y) :
    Calls Tryz.prog 14 #[.slice (some ⟨blk, off, none⟩) d.size cap, .func (.func g) #[] cb] w fun e w' =>
      e = .returned (.tuple #[]) ∧ ∃ n os, w' = sortWorld enc w blk off n (d.toList.mergeSort fun x y => !(ltOf cf) y x).toArray os := Any.slices_SortFunc_total Tryz.laysSlF6_f14 enc h1 cf hO g cb blk off cap d w eg hcmp hH hblk hsz hT
end Go.Proofs
end
section
set_option maxRecDepth 100000
set_option linter.unusedVariables false
set_option linter.unusedSimpArgs false
namespace Go.AM
open Go Go.RowKit Go.Sort Go.Proofs
theorem blw_grow {W w' : World} (h : Blw W.heap.size W w') : ∃ q os, w' = grow (W.drewN q) os := by
  refine ⟨w'.drawn - W.drawn, w'.heap.extract W.heap.size w'.heap.size, ?_⟩
  have hh : w'.heap = W.heap ++ w'.heap.extract W.heap.size w'.heap.size := by
    apply Array.ext_getElem?
    intro i
    rw [Array.getElem?_append]
    split
    · rename_i hi; exact h.block i hi
    · rename_i hi
      rw [Array.getElem?_extract]
      by_cases h2 : i < w'.heap.size
      · rw [if_pos (by have := h.size; omega)]; congr 1; omega
      · rw [if_neg (by have := h.size; omega), Array.getElem?_eq_none (by omega)]
  have h1 := h.os; have h2 := h.tape; have h3 := h.output; have h4 := h.drawn
  cases w' with
  | mk heap tape drawn os output =>
    simp only at h1 h2 h3 h4 hh
    simp only [grow, World.drewN, ← hh]
    subst h1 h2 h3
    congr 1
    omega
theorem sortW_block {α : Type} [Inhabited α] {enc : α → Value} {w : World} {b m : Nat} {dk : Array α} {os : Array Obj} {k : Nat} (hk : k ≠ b) (hl : k < w.heap.size) : (sortWorld enc w b 0 m dk os).heap[k]? = w.heap[k]? := by
  simp only [sortWorld, grow, putRow, mapBlock, Sort.ahead]
  rw [Array.getElem?_append, if_pos (by simpa using hl), Array.getElem?_modify, if_neg (Ne.symm hk)]
theorem sortW_size {α : Type} [Inhabited α] {enc : α → Value} {w : World} {b m : Nat} {dk : Array α} {os : Array Obj} : w.heap.size ≤ (sortWorld enc w b 0 m dk os).heap.size := by
  simp [sortWorld, grow, putRow, mapBlock, Sort.ahead]
theorem sortW_row {α : Type} [Inhabited α] {enc : α → Value} {w : World} {b m : Nat} {dk : Array α} {os : Array Obj} {arr : Array Value} {e : TypeId} {fr : Nat × Nat} (h : w.heap[b]? = some (.cells arr e fr)) :
    (sortWorld enc w b 0 m dk os).heap[b]? = some (.cells (putCells enc 0 dk arr) e fr) := by
  have hl : b < w.heap.size := (Array.getElem?_eq_some_iff.1 h).1
  simp only [sortWorld, grow, putRow, mapBlock, Sort.ahead]
  rw [Array.getElem?_append, if_pos (by simpa using hl), Array.getElem?_modify, if_pos rfl, h]
  rfl
theorem WR.sortW {α : Type} [Inhabited α] {enc : α → Value} {base : Nat} {I : Imm} {h : Heap} {w : World} {b m : Nat} {dk : Array α} {os : Array Obj} {cs : List AV} (hw : WR base I h w) (hb : h b = some (.row cs)) :
    (∀ c o v, I.cell c o = some v → (sortWorld enc w b 0 m dk os).cell? ⟨c, o, none⟩ = some v) ∧ (∀ c ents, I.mp c = some ents → ∃ clock, (sortWorld enc w b 0 m dk os).heap[c]? = some (.map ents.toArray clock)) ∧ (∀ c k, I.cap c = some k → c < (sortWorld enc w b 0 m dk os).heap.size) := by
  obtain ⟨hbase, arr, e, hh, hsz, hcl, hv, hn⟩ := hw.obj b _ hb
  refine ⟨fun c o v hc => ?_, fun c ents hc => ?_, fun c k hc => Nat.lt_of_lt_of_le (hw.capLt c k hc) sortW_size⟩
  · have hcb : c ≠ b := fun e => by rw [e, hn] at hc; cases hc
    have h1 := hw.cell c o v hc
    have hl : c < w.heap.size := by
      simp only [World.cell?] at h1
      split at h1
      · rename_i hx; exact (Array.getElem?_eq_some_iff.1 hx).1
      · cases h1
    rw [← h1]; simp only [World.cell?, sortW_block hcb hl]
  · obtain ⟨clock, h1⟩ := hw.map c ents hc
    have hcb : c ≠ b := fun e => by rw [e, hh] at h1; cases h1
    exact ⟨clock, by rw [sortW_block hcb (Array.getElem?_eq_some_iff.1 h1).1]; exact h1⟩
theorem inv_calls {P : Program} {f : Nat} {fn : Func} {c : Code} {vc args : Array Value} {W : World} {R : Ending → World → Prop} (hf : P.funcs[f]? = some fn) (hb : fn.body = some c) (hname : (fn.name == "runtime.NumGoroutine") = false)
    (h : Inv P (.func (.func f) #[] vc) args W R) : Calls P f (args ++ vc) W R := by
  obtain ⟨d, h1, h2⟩ := h
  have hd : d = { target := .fn (.func f) vc, args := #[] ++ args } := by
    have := h1 W
    simp [Deferred.ofValue] at this
    rw [← this]; simp
  subst hd
  have hname' : ¬ fn.name = "runtime.NumGoroutine" := by simpa using hname
  have hrun : (invoke (.fn (.func f) vc) (#[] ++ args)).run P W = .ok (.enter f (args ++ vc)) W := by
    simp [invoke, callFunc, hf, hb, hname']
  simp only [hrun] at h2
  exact callsIn_wide.1 h2
theorem inv_of {P : Program} {f : Nat} {fn : Func} {c : Code} {args : Array Value} {W : World} {R : Ending → World → Prop} (hf : P.funcs[f]? = some fn) (hb : fn.body = some c) (hname : (fn.name == "runtime.NumGoroutine") = false)
    (h : Calls P f args W R) : Inv P (.func (.func f) #[] #[]) args W R := by
  have hname' : ¬ fn.name = "runtime.NumGoroutine" := by simpa using hname
  refine ⟨{ target := .fn (.func f) #[], args := #[] ++ args }, fun w => by simp [Deferred.ofValue], ?_⟩
  have hrun : (invoke (.fn (.func f) #[]) (#[] ++ args)).run P W = .ok (.enter f args) W := by
    simp [invoke, callFunc, hf, hb, hname']
  simp only [hrun]
  exact callsIn_wide.2 h
theorem putCells_get {α : Type} [Inhabited α] (enc : α → Value) (d : Array α) (c : Array Value) (k : Nat) (hk : k < c.size) : (putCells enc 0 d c).getD k default = if k < d.size then enc d[k]! else c.getD k default := by
  simp only [putCells, Array.getD_eq_getD_getElem?, Array.getElem?_mapIdx, Array.getElem?_eq_getElem hk, Option.map_some, Option.getD_some, Nat.zero_le, true_and, Nat.zero_add, Nat.sub_zero]
theorem arr2 {vs : Array Value} (h : vs.size = 2) : ∃ v0 v1, vs = #[v0, v1] := by
  obtain ⟨l⟩ := vs
  match l, h with | [a, b], _ => exact ⟨a, b, rfl⟩
namespace Tryd
variable {α : Type} [Inhabited α]
theorem sort_ {g : Nat} {fg : Func} {cg : Code} {cap : List AV} {b cp : Nat} {ns : List Int} {h : Heap} (en : α → Int) (cf : α → α → Int) (hO : SWO (ltOf cf)) (hT : ∀ x y, (ltOf cf) x y = false → (ltOf cf) y x = false → x = y) (l : List α)
    (hg : PR.funcs[g]? = some fg) (hgb : fg.body = some cg) (hgn : (fg.name == "runtime.NumGoroutine") = false)
    (hc : ∀ x y, PFn PR (.fn (.func g) [] cap) [.lit (.int .i64 (en x)), .lit (.int .i64 (en y))] (.lit (.int .i64 (cf x y))))
    (hb : h b = some (.row (ints ns))) (hl : ns.take l.length = l.map en) (hll : l.length ≤ ns.length) (hsz : l.length < 4611686018427387904) :
    AFn PR (.fn (.func 14) [] []) [.ms b 0 1 l.length cp, .fn (.func g) [] cap] h (fun a h' => a = .junk ∧ h' = h.upd b (some (.row (ints ((l.mergeSort fun x y => !(ltOf cf) y x).map en ++ ns.drop l.length))))) := by
  intro base I w fv vs hbase hW hfv hvs
  cases hfv with
  | fn _ _ _ vf vc hf0 hc0 _ _ =>
    obtain rfl : vf = #[] := Array.eq_empty_of_size_eq_zero hf0
    obtain rfl : vc = #[] := Array.eq_empty_of_size_eq_zero hc0
    obtain ⟨hs2, hv⟩ := hvs
    have h1 := hv 0 _ rfl
    have h2 := hv 1 _ rfl
    obtain ⟨v0, v1, rfl⟩ := arr2 hs2
    have e0 : v0 = .slice (some ⟨b, 0, none⟩) l.length cp := by
      simp only [Array.getD] at h1; cases h1; rfl
    have e1 : ∃ vc, v1 = .func (.func g) #[] vc ∧ VR I (.fn (.func g) [] cap) (.func (.func g) #[] vc) := by
      simp only [Array.getD] at h2
      cases h2 with
      | fn _ _ _ vf vc hf hc k1 k2 =>
        obtain rfl : vf = #[] := Array.eq_empty_of_size_eq_zero hf
        exact ⟨vc, rfl, .fn _ _ _ _ _ hf hc k1 k2⟩
    obtain ⟨vc, rfl, hvc⟩ := e1
    subst e0
    have eg : ∀ args w, (callFunc g args).run PR w = .ok (.enter g args) w := fun args w => by
      have hname' : ¬ fg.name = "runtime.NumGoroutine" := by simpa using hgn
      simp [callFunc, hg, hgb, hname']
    let enc : α → Value := fun x => .int .i64 (en x)
    obtain ⟨hbb, arr, ety, hh, hasz, hcl, hav, hnn⟩ := hW.obj b _ hb
    rw [ints_len] at hasz
    have hget : ∀ j, j < l.toArray.size → arr[j]? = some (enc l.toArray[j]!) := fun j hj => by
      have hj' : j < l.length := by simpa using hj
      have hjn : j < ns.length := by omega
      have h3 := hav j _ (ints_get hjn)
      have h4 := VR.lit_inv h3
      have h5 : ns.getD j 0 = en (l[j]'hj') := by
        have h6 := congrArg (fun z => z[j]?) hl
        simp only [List.getElem?_take, hj', if_true, List.getElem?_map, List.getElem?_eq_getElem hj', Option.map_some] at h6
        rw [List.getD_eq_getElem?_getD, h6]; rfl
      rw [h5] at h4
      have hja : j < arr.size := by omega
      rw [Array.getD_eq_getD_getElem?, Array.getElem?_eq_getElem hja, Option.getD_some] at h4
      rw [Array.getElem?_eq_getElem hja, h4]
      congr 2
      simp [hj']
    have hH : Holds enc w b 0 l.toArray := fun j hj => by
      refine ⟨?_, ?_⟩
      · simp only [World.cell?, hh, Nat.zero_add]; simpa using hget j hj
      · simp [World.frozen?, hh]
    have hcmp : CmpLays1 PR g vc enc cf b 0 l.toArray.size w := by
      intro m os dk hdk x y
      let W := sortWorld enc w b 0 m dk os
      obtain ⟨q1, q2, q3⟩ := hW.sortW (enc := enc) (m := m) (dk := dk) (os := os) hb
      have hWR : WR W.heap.size I (fun _ => none) W := ⟨q1, q2, fun _ _ e => (by cases e), q3⟩
      have hVs : VRs I [.lit (.int .i64 (en x)), .lit (.int .i64 (en y))] #[enc x, enc y] := by
        refine ⟨rfl, fun i a e => ?_⟩
        match i, e with
        | 0, e => cases e; exact .lit _ rfl
        | 1, e => cases e; exact .lit _ rfl
      refine (inv_calls hg hgb hgn (hc x y (fun _ => none) W.heap.size I W (.func (.func g) #[] vc) #[enc x, enc y] (Nat.le_refl _) hWR hvc hVs)).mono ?_
      rintro e w' ⟨u, rfl, I', a, h', k1, k2, k3, k4, k5, rfl, k6⟩
      exact ⟨by rw [VR.lit_inv k3], blw_grow k4⟩
    have hbl : b < w.heap.size := (Array.getElem?_eq_some_iff.1 hh).1
    have key := Go.Proofs.Tryz.slices_SortFunc_total enc (fun _ => rfl) cf hO g vc b 0 cp l.toArray w eg hcmp hH hbl (by simpa using hsz) hT
    obtain ⟨c25, hc25⟩ : ∃ c, Go.Proofs.Tryz.f14.body = some c := ⟨_, rfl⟩
    refine inv_of Go.Proofs.Tryz.func14 hc25 rfl (key.mono ?_)
    rintro e w' ⟨rfl, n, os, rfl⟩
    let d' : Array α := (l.mergeSort fun x y => !(ltOf cf) y x).toArray
    have hd' : d'.size = l.length := by simp [d', List.length_mergeSort]
    let W := sortWorld enc w b 0 n d' os
    obtain ⟨q1, q2, q3⟩ := hW.sortW (enc := enc) (m := n) (dk := d') (os := os) hb
    refine ⟨_, rfl, I, .junk, _, .refl I, ⟨q1, q2, ?_, q3⟩, .junk _, ⟨⟨rfl, rfl, rfl, sortW_size, fun k hk => sortW_block (by omega) (by omega)⟩, by simp [sortWorld, grow, putRow, mapBlock, Sort.ahead]⟩, ?_, rfl, rfl⟩
    · intro b' o ho
      by_cases e : b' = b
      · subst e
        rw [Heap.upd_same] at ho
        cases ho
        refine ⟨hbb, putCells enc 0 d' arr, ety, sortW_row hh, ?_, ?_, ?_, hnn⟩
        · simp only [ints_len, List.length_append, List.length_map, List.length_mergeSort, List.length_drop, putCells, Array.size_mapIdx]; omega
        · intro a ha
          obtain ⟨z, _, rfl⟩ := List.mem_map.1 ha
          rfl
        · intro i a hi
          have hlt : i < ns.length := by
            have := (List.getElem?_eq_some_iff.1 hi).1
            simp only [ints_len, List.length_append, List.length_map, List.length_mergeSort, List.length_drop] at this; omega
          rw [putCells_get _ _ _ _ (by omega), hd']
          rw [ints, List.getElem?_map, Option.map_eq_some_iff] at hi
          obtain ⟨z, hz, rfl⟩ := hi
          split
          · rename_i hil
            rw [List.getElem?_append_left (by simpa using hil), List.getElem?_map, Option.map_eq_some_iff] at hz
            obtain ⟨x, hx, rfl⟩ := hz
            have : d'[i]! = x := by
              rw [getElem!_def, show d'[i]? = some x by simpa [d'] using hx]
            rw [this]; exact .lit _ rfl
          · rename_i hil
            rw [List.getElem?_append_right (by simpa using hil), List.length_map, List.length_mergeSort, List.getElem?_drop, show l.length + (i - l.length) = i by omega] at hz
            have h3 := hav i _ (ints_get hlt)
            rw [List.getD_eq_getElem?_getD, hz] at h3
            exact h3
      · rw [Heap.upd_other _ e] at ho
        obtain ⟨k1, k2⟩ := hW.obj b' o ho
        exact ⟨k1, k2.keep (.refl I) rfl rfl (sortW_block e k2.lt)⟩
    · intro x o hx hlk
      by_cases e : x = b
      · subst e; rw [hb] at hx; cases hx; cases hlk
      · exact ⟨o, by rw [Heap.upd_other _ e]; exact hx, AObj.sim_refl hlk⟩
end Tryd
end Go.AM
end
section
set_option linter.unusedVariables false
set_option linter.unusedSimpArgs false
namespace Go.AM.Tarjan
inductive Rch (adj : Nat → List Nat) : Nat → Nat → Prop
  | refl (x : Nat) : Rch adj x x
  | step {x y z : Nat} : y ∈ adj x → Rch adj y z → Rch adj x z
theorem Rch.trans {adj : Nat → List Nat} {x y z : Nat} (h : Rch adj x y) (k : Rch adj y z) : Rch adj x z := by
  induction h with
  | refl => exact k
  | step e _ ih => exact .step e (ih k)
theorem Rch.one {adj : Nat → List Nat} {x y : Nat} (h : y ∈ adj x) : Rch adj x y := .step h (.refl y)
theorem Rch.closed {adj : Nat → List Nat} {D : Nat → Prop} (hD : ∀ x, D x → ∀ y ∈ adj x, D y) {x y : Nat} (h : Rch adj x y) (hx : D x) : D y := by
  induction h with
  | refl => exact hx
  | step e _ ih => exact ih (hD _ hx _ e)
def g0 (l : List Int) (p : Nat) : Int := l.getD p 0
theorem g0_set {l : List Int} {i j : Nat} {v : Int} (hi : i < l.length) : g0 (l.set i v) j = if i = j then v else g0 l j := by
  unfold g0
  rw [List.getD_eq_getElem?_getD, List.getD_eq_getElem?_getD, List.getElem?_set]
  by_cases h : i = j
  · subst h; simp [hi]
  · simp [h]
structure TJ (adj : Nat → List Nat) (m : Nat) (idx low : List Int) (op : List Nat) (st : List (Nat × Nat)) (fr : Option Nat) (cnt : Nat) (out : List (List Nat)) : Prop where
  lidx : idx.length = m
  llow : low.length = m
  ub : ∀ p, p < m → 0 ≤ g0 idx p ∧ g0 idx p ≤ cnt
  num : idx.count 0 + cnt = m
  opm : ∀ x ∈ op, x < m ∧ g0 idx x ≠ 0
  srt : op.Pairwise fun x y => g0 idx x < g0 idx y
  sub : (st.map Prod.fst).Sublist op
  fre : ∀ c, fr = some c → c < m ∧ g0 idx c = 0
  nxt : ∀ q ∈ st, q.2 ≤ (adj q.1).length
  expl : ∀ q ∈ st, ∀ (j y : Nat), j < q.2 → (adj q.1)[j]? = some y → g0 idx y ≠ 0 ∨ fr = some y
  fin : ∀ x ∈ op, x ∉ st.map Prod.fst → (∀ y ∈ adj x, g0 idx y ≠ 0) ∧ g0 low x < g0 idx x
  pre1 : ∀ x ∈ op, ∃ a ∈ st.map Prod.fst, g0 idx a ≤ g0 idx x
  pre2 : ∀ x ∈ op, ∀ b ∈ st.map Prod.fst, g0 idx b ≤ g0 idx x → Rch adj b x
  frr : ∀ c, fr = some c → ∀ b ∈ st.map Prod.fst, Rch adj b c
  lw : ∀ x ∈ op, g0 low x ≤ g0 idx x ∧ ∃ y ∈ op, g0 idx y = g0 low x ∧ Rch adj x y
  lb1 : ∀ q ∈ st, ∀ (j y : Nat), j < q.2 → (adj q.1)[j]? = some y → y ∈ op → g0 low q.1 ≤ g0 idx y
  lb2 : ∀ a ∈ st.map Prod.fst, ∀ z ∈ op, z ∉ st.map Prod.fst → g0 idx a ≤ g0 idx z → (∀ b ∈ st.map Prod.fst, g0 idx a < g0 idx b → g0 idx z < g0 idx b) → ∀ y ∈ adj z, y ∈ op → g0 low a ≤ g0 idx y
  dn : ∀ x, x < m → g0 idx x ≠ 0 → x ∉ op → ∀ y ∈ adj x, g0 idx y ≠ 0 ∧ y ∉ op
  outs : ∀ x, x ∈ out.flatten ↔ (x < m ∧ g0 idx x ≠ 0 ∧ x ∉ op)
  ond : out.flatten.Nodup
  scc : ∀ C ∈ out, C ≠ [] ∧ ∀ x ∈ C, ∀ y, y ∈ C ↔ (Rch adj x y ∧ Rch adj y x)
  siz : out.length + op.length ≤ cnt
section
variable {adj : Nat → List Nat} {m : Nat} {idx low : List Int} {op : List Nat} {st : List (Nat × Nat)} {fr : Option Nat} {cnt : Nat} {out : List (List Nat)}
theorem TJ.inj (h : TJ adj m idx low op st fr cnt out) {x y : Nat} (hx : x ∈ op) (hy : y ∈ op) (e : g0 idx x = g0 idx y) : x = y := by
  obtain ⟨i, hi⟩ := List.mem_iff_getElem?.1 hx
  obtain ⟨j, hj⟩ := List.mem_iff_getElem?.1 hy
  obtain ⟨hi1, hi2⟩ := List.getElem?_eq_some_iff.1 hi
  obtain ⟨hj1, hj2⟩ := List.getElem?_eq_some_iff.1 hj
  have hp := List.pairwise_iff_getElem.1 h.srt
  rcases Nat.lt_trichotomy i j with hlt | rfl | hlt
  · have := hp i j hi1 hj1 hlt; rw [hi2, hj2] at this; omega
  · rw [← hi2, ← hj2]
  · have := hp j i hj1 hi1 hlt; rw [hi2, hj2] at this; omega
theorem TJ.nodup (h : TJ adj m idx low op st fr cnt out) : op.Nodup := by
  rw [List.nodup_iff_pairwise_ne]
  exact h.srt.imp fun hlt e => by rw [e] at hlt; omega
theorem TJ.path (h : TJ adj m idx low op st fr cnt out) {a : Nat} (ha : a ∈ st.map Prod.fst) : a ∈ op := h.sub.subset ha
theorem TJ.start (adj : Nat → List Nat) (m : Nat) : TJ adj m (List.replicate m 0) (List.replicate m 0) [] [] none 0 [] := by
  have hz : ∀ p, g0 (List.replicate m 0) p = 0 := fun p => by
    unfold g0; rw [List.getD_eq_getElem?_getD, List.getElem?_replicate]; split <;> rfl
  refine ⟨by simp, by simp, fun p _ => by rw [hz]; omega, by simp, by simp, by simp, by simp, by simp, by simp, by simp, by simp, by simp, by simp, by simp, by simp, by simp, by simp, fun x _ h => absurd (hz x) h, fun x => ⟨fun h => by simp at h, fun h => absurd (hz x) h.2.1⟩, by simp, by simp, by simp⟩
theorem TJ.push0 (h : TJ adj m idx low [] [] none cnt out) {c : Nat} (hc : c < m) (h0 : g0 idx c = 0) : TJ adj m idx low [] [] (some c) cnt out :=
  ⟨h.lidx, h.llow, h.ub, h.num, h.opm, h.srt, h.sub, (fun c' e => by cases e; exact ⟨hc, h0⟩), h.nxt, (fun q hq => by cases hq), h.fin, h.pre1, h.pre2, (fun c' _ b hb => by cases hb), h.lw, h.lb1, h.lb2, h.dn, h.outs, h.ond, h.scc, h.siz⟩
theorem TJ.visit {c : Nat} (h : TJ adj m idx low op st (some c) cnt out) : TJ adj m (idx.set c ((cnt + 1 : Nat) : Int)) (low.set c ((cnt + 1 : Nat) : Int)) (op ++ [c]) (st ++ [(c, 0)]) none (cnt + 1) out := by
  obtain ⟨hc, hc0⟩ := h.fre c rfl
  have hl : c < idx.length := by rw [h.lidx]; exact hc
  have hl2 : c < low.length := by rw [h.llow]; exact hc
  have gi : ∀ j, g0 (idx.set c ((cnt + 1 : Nat) : Int)) j = if c = j then ((cnt + 1 : Nat) : Int) else g0 idx j := fun j => g0_set hl
  have gl : ∀ j, g0 (low.set c ((cnt + 1 : Nat) : Int)) j = if c = j then ((cnt + 1 : Nat) : Int) else g0 low j := fun j => g0_set hl2
  have hco : c ∉ op := fun hm => (h.opm c hm).2 hc0
  have gio : ∀ x ∈ op, g0 (idx.set c ((cnt + 1 : Nat) : Int)) x = g0 idx x := fun x hx => by rw [gi, if_neg (show ¬ c = x from fun e => hco (by rw [e]; exact hx))]
  have glo : ∀ x ∈ op, g0 (low.set c ((cnt + 1 : Nat) : Int)) x = g0 low x := fun x hx => by rw [gl, if_neg (show ¬ c = x from fun e => hco (by rw [e]; exact hx))]
  have gic : g0 (idx.set c ((cnt + 1 : Nat) : Int)) c = ((cnt + 1 : Nat) : Int) := by rw [gi, if_pos rfl]
  have glc : g0 (low.set c ((cnt + 1 : Nat) : Int)) c = ((cnt + 1 : Nat) : Int) := by rw [gl, if_pos rfl]
  have gne : ∀ x, g0 idx x ≠ 0 → g0 (idx.set c ((cnt + 1 : Nat) : Int)) x ≠ 0 := fun x hx => by
    rw [gi]; split
    · omega
    · exact hx
  have hopu : ∀ x ∈ op, g0 idx x ≤ cnt := fun x hx => (h.ub x (h.opm x hx).1).2
  have hpu : ∀ b ∈ st.map Prod.fst, g0 idx b ≤ cnt := fun b hb => hopu b (h.path hb)
  have hmm : ∀ b, b ∈ (st ++ [(c, 0)]).map Prod.fst ↔ b ∈ st.map Prod.fst ∨ b = c := fun b => by simp
  have hcp : c ∉ st.map Prod.fst := fun hm => hco (h.path hm)
  refine ⟨by rw [List.length_set]; exact h.lidx, by rw [List.length_set]; exact h.llow, fun p hp => ?_, ?_, ?_, ?_, ?_, (fun c' e => by cases e), ?_, ?_, ?_, ?_, ?_, (fun c' e => by cases e), ?_, ?_, ?_, ?_, ?_, h.ond, h.scc, ?_⟩
  · rw [gi]; split
    · omega
    · have := h.ub p hp; omega
  · rw [List.count_set hl]
    have : (idx[c] == (0 : Int)) = true := by
      have : idx[c] = 0 := by have := hc0; unfold g0 at this; rwa [List.getD_eq_getElem?_getD, List.getElem?_eq_getElem hl] at this
      rw [this]; rfl
    rw [if_pos this, if_neg (by simp; omega)]
    have hpos : 0 < idx.count 0 := by
      rw [List.count_pos_iff]
      have : idx[c] = 0 := by have := hc0; unfold g0 at this; rwa [List.getD_eq_getElem?_getD, List.getElem?_eq_getElem hl] at this
      rw [← this]; exact List.getElem_mem hl
    have := h.num
    omega
  · intro x hx
    rcases List.mem_append.1 hx with hx | hx
    · exact ⟨(h.opm x hx).1, gne x (h.opm x hx).2⟩
    · simp at hx; subst hx; exact ⟨hc, by rw [gic]; omega⟩
  · rw [List.pairwise_append]
    refine ⟨h.srt.imp_of_mem fun {a b} ha hb hab => by rw [gio a ha, gio b hb]; exact hab, by simp, fun a ha b hb => ?_⟩
    simp at hb; subst hb
    rw [gio a ha, gic]; have := hopu a ha; omega
  · rw [List.map_append]; exact h.sub.append (.refl _)
  · intro q hq
    rcases List.mem_append.1 hq with hq | hq
    · exact h.nxt q hq
    · simp at hq; subst hq; exact Nat.zero_le _
  · intro q hq j y hj hy
    rcases List.mem_append.1 hq with hq | hq
    · rcases h.expl q hq j y hj hy with h1 | h1
      · exact .inl (gne y h1)
      · injection h1 with h1; subst h1; exact .inl (by rw [gic]; omega)
    · simp at hq; subst hq; simp at hj
  · intro x hx hn
    rw [hmm] at hn
    rcases List.mem_append.1 hx with hx | hx
    · obtain ⟨h1, h2⟩ := h.fin x hx fun hh => hn (.inl hh)
      exact ⟨fun y hy => gne y (h1 y hy), by rw [glo x hx, gio x hx]; exact h2⟩
    · simp at hx; exact absurd (.inr hx) hn
  · intro x hx
    rcases List.mem_append.1 hx with hx | hx
    · obtain ⟨a, ha, hle⟩ := h.pre1 x hx
      exact ⟨a, (hmm a).2 (.inl ha), by rw [gio a (h.path ha), gio x hx]; exact hle⟩
    · simp at hx; subst hx; exact ⟨x, (hmm x).2 (.inr rfl), Int.le_refl _⟩
  · intro x hx0 b hb hle
    rcases List.mem_append.1 hx0 with hx | hx
    · clear hx0
      rcases (hmm b).1 hb with hb | rfl
      · exact h.pre2 x hx b hb (by rwa [gio b (h.path hb), gio x hx] at hle)
      · rw [gic, gio x hx] at hle; have := hopu x hx; omega
    · simp at hx; subst hx
      rcases (hmm b).1 hb with hb | rfl
      · exact h.frr x rfl b hb
      · exact .refl _
  · intro x hx
    rcases List.mem_append.1 hx with hx | hx
    · obtain ⟨h1, y, hy, h2, h3⟩ := h.lw x hx
      exact ⟨by rw [glo x hx, gio x hx]; exact h1, y, List.mem_append_left _ hy, by rw [gio y hy, glo x hx]; exact h2, h3⟩
    · simp at hx; subst hx
      exact ⟨by rw [glc, gic]; exact Int.le_refl _, x, by simp, by rw [glc, gic], .refl _⟩
  · intro q hq j y hj hy hyo
    rcases List.mem_append.1 hq with hq | hq
    · have hqp : q.1 ∈ st.map Prod.fst := List.mem_map_of_mem hq
      have hqo := h.path hqp
      rw [glo q.1 hqo]
      rcases List.mem_append.1 hyo with hyo | hyo
      · rw [gio y hyo]; exact h.lb1 q hq j y hj hy hyo
      · simp at hyo; subst hyo
        rw [gic]; have := (h.lw q.1 hqo).1; have := hopu q.1 hqo; omega
    · simp at hq; subst hq; simp at hj
  · intro a ha z hz0 hzn hle hlast y hy hyo
    rw [hmm] at hzn
    rcases List.mem_append.1 hz0 with hz | hz
    · clear hz0
      have hfz := h.fin z hz fun hh => hzn (.inl hh)
      have hyc : y ≠ c := fun e => hfz.1 y hy (by rw [e]; exact hc0)
      have hyo' : y ∈ op := by
        rcases List.mem_append.1 hyo with h1 | h1
        · exact h1
        · simp at h1; exact absurd h1 hyc
      rcases (hmm a).1 ha with ha | rfl
      · rw [glo a (h.path ha), gio y hyo']
        refine h.lb2 a ha z hz (fun hh => hzn (.inl hh)) (by rwa [gio a (h.path ha), gio z hz] at hle) (fun b hb hlt => ?_) y hy hyo'
        have := hlast b ((hmm b).2 (.inl hb)) (by rwa [gio a (h.path ha), gio b (h.path hb)])
        rwa [gio z hz, gio b (h.path hb)] at this
      · rw [gic, gio z hz] at hle; have := hopu z hz; omega
    · simp at hz; exact absurd (.inr hz) hzn
  · intro x hx hx0 hxo y hy
    rw [List.mem_append, not_or] at hxo
    have hxc : ¬ c = x := fun e => hxo.2 (by simp [e])
    rw [gi, if_neg hxc] at hx0
    obtain ⟨h1, h2⟩ := h.dn x hx hx0 hxo.1 y hy
    refine ⟨gne y h1, fun hh => ?_⟩
    rcases List.mem_append.1 hh with hh | hh
    · exact h2 hh
    · simp at hh; subst hh; exact h1 hc0
  · intro x
    rw [h.outs, List.mem_append, not_or, gi]
    by_cases hxc : c = x
    · subst hxc; simp [hc0]
    · rw [if_neg hxc]
      have : x ∉ [c] := by simp; exact fun e => hxc e.symm
      simp [this]
  · rw [List.length_append, List.length_singleton]; have := h.siz; omega
section
variable {pre : List (Nat × Nat)} {p j : Nat}
theorem TJ.last (h : TJ adj m idx low op (pre ++ [(p, j)]) fr cnt out) : ∀ b ∈ pre.map Prod.fst, g0 idx b < g0 idx p := by
  intro b hb
  have := h.srt.sublist h.sub
  rw [List.map_append, List.pairwise_append] at this
  exact this.2.2 b hb p (by simp)
theorem TJ.top (h : TJ adj m idx low op (pre ++ [(p, j)]) fr cnt out) : p ∈ op := h.path (by simp)
theorem mem_st {b : Nat} : b ∈ (pre ++ [(p, j)]).map Prod.fst ↔ b ∈ pre.map Prod.fst ∨ b = p := by simp
theorem TJ.lastle (h : TJ adj m idx low op (pre ++ [(p, j)]) fr cnt out) : ∀ b ∈ (pre ++ [(p, j)]).map Prod.fst, g0 idx b ≤ g0 idx p := by
  intro b hb
  rcases mem_st.1 hb with hb | rfl
  · have := h.last b hb; omega
  · exact Int.le_refl _
theorem bump_map (j' : Nat) : (pre ++ [(p, j')]).map Prod.fst = (pre ++ [(p, j)]).map Prod.fst := by simp
theorem TJ.edge0 (h : TJ adj m idx low op (pre ++ [(p, j)]) none cnt out) {y : Nat} (hy : (adj p)[j]? = some y) (hyo : y ∉ op) (hfr : (fr = none ∧ g0 idx y ≠ 0) ∨ (fr = some y ∧ y < m ∧ g0 idx y = 0)) : TJ adj m idx low op (pre ++ [(p, j + 1)]) fr cnt out := by
  have hb := bump_map (pre := pre) (p := p) (j := j) (j + 1)
  have hjl : j < (adj p).length := (List.getElem?_eq_some_iff.1 hy).1
  have hq : ∀ q ∈ pre ++ [(p, j + 1)], ∀ (k z : Nat), k < q.2 → (adj q.1)[k]? = some z → (∃ q' ∈ pre ++ [(p, j)], q'.1 = q.1 ∧ k < q'.2) ∨ (q.1 = p ∧ k = j ∧ z = y) := by
    intro q hq k z hk hz
    rcases List.mem_append.1 hq with hq | hq
    · exact .inl ⟨q, List.mem_append_left _ hq, rfl, hk⟩
    · simp at hq; subst hq
      simp at hk
      rcases Nat.lt_or_ge k j with h1 | h1
      · exact .inl ⟨(p, j), by simp, rfl, h1⟩
      · have : k = j := by omega
        subst this
        rw [hy] at hz; injection hz with hz
        exact .inr ⟨rfl, rfl, hz.symm⟩
  refine ⟨h.lidx, h.llow, h.ub, h.num, h.opm, h.srt, by rw [hb]; exact h.sub, ?_, ?_, ?_, by rw [hb]; exact h.fin, by rw [hb]; exact h.pre1, by rw [hb]; exact h.pre2, ?_, h.lw, ?_, by rw [hb]; exact h.lb2, h.dn, h.outs, h.ond, h.scc, h.siz⟩
  · intro c hc
    rcases hfr with ⟨h1, _⟩ | ⟨h1, h2, h3⟩
    · rw [h1] at hc; cases hc
    · rw [h1] at hc; injection hc with hc; subst hc; exact ⟨h2, h3⟩
  · intro q hq
    rcases List.mem_append.1 hq with hq | hq
    · exact h.nxt q (List.mem_append_left _ hq)
    · simp at hq; subst hq; exact hjl
  · intro q hq' k z hk hz
    rcases hq q hq' k z hk hz with ⟨q', hq1, hq2, hq3⟩ | ⟨h1, h2, h3⟩
    · rcases h.expl q' hq1 k z hq3 (by rw [hq2]; exact hz) with h1 | h1
      · exact .inl h1
      · cases h1
    · subst h3
      rcases hfr with ⟨_, h4⟩ | ⟨h4, _⟩
      · exact .inl h4
      · exact .inr h4
  · intro c hc b hbb
    rcases hfr with ⟨h1, _⟩ | ⟨h1, h2, h3⟩
    · rw [h1] at hc; cases hc
    · rw [h1] at hc; injection hc with hc; subst hc
      rw [hb] at hbb
      exact (h.pre2 p h.top b hbb (h.lastle b hbb)).trans (.one (List.mem_of_getElem? hy))
  · intro q hq' k z hk hz hzo
    rcases hq q hq' k z hk hz with ⟨q', hq1, hq2, hq3⟩ | ⟨h1, h2, h3⟩
    · have := h.lb1 q' hq1 k z hq3 (by rw [hq2]; exact hz) hzo
      rwa [hq2] at this
    · rw [h3] at hzo; exact absurd hzo hyo
theorem TJ.edge1 (h : TJ adj m idx low op (pre ++ [(p, j)]) none cnt out) {y : Nat} (hy : (adj p)[j]? = some y) (hyo : y ∈ op) : TJ adj m idx (low.set p (min (g0 low p) (g0 idx y))) op (pre ++ [(p, j + 1)]) none cnt out := by
  have hb := bump_map (pre := pre) (p := p) (j := j) (j + 1)
  have hjl : j < (adj p).length := (List.getElem?_eq_some_iff.1 hy).1
  have hpm := (h.opm p h.top).1
  have gl : ∀ x, g0 (low.set p (min (g0 low p) (g0 idx y))) x = if p = x then min (g0 low p) (g0 idx y) else g0 low x := fun x => g0_set (by rw [h.llow]; exact hpm)
  have gle : ∀ x, g0 (low.set p (min (g0 low p) (g0 idx y))) x ≤ g0 low x := fun x => by
    rw [gl]; split
    · rename_i e; rw [← e]; omega
    · omega
  refine ⟨h.lidx, by rw [List.length_set]; exact h.llow, h.ub, h.num, h.opm, h.srt, by rw [hb]; exact h.sub, (fun c e => by cases e), ?_, ?_, ?_, by rw [hb]; exact h.pre1, by rw [hb]; exact h.pre2, (fun c e => by cases e), ?_, ?_, ?_, h.dn, h.outs, h.ond, h.scc, h.siz⟩
  · intro q hq
    rcases List.mem_append.1 hq with hq | hq
    · exact h.nxt q (List.mem_append_left _ hq)
    · simp at hq; subst hq; exact hjl
  · intro q hq k z hk hz
    rcases List.mem_append.1 hq with hq | hq
    · exact h.expl q (List.mem_append_left _ hq) k z hk hz
    · simp at hq; subst hq
      simp at hk
      rcases Nat.lt_or_ge k j with h1 | h1
      · exact h.expl (p, j) (by simp) k z h1 hz
      · have : k = j := by omega
        subst this
        rw [hy] at hz; injection hz with hz
        subst hz
        exact .inl (h.opm y hyo).2
  · intro x hx hn
    rw [hb] at hn
    have h1 := h.fin x hx hn
    refine ⟨h1.1, ?_⟩
    have := gle x; omega
  · intro x hx
    obtain ⟨h1, w, hw, h2, h3⟩ := h.lw x hx
    refine ⟨by have := gle x; omega, ?_⟩
    rw [gl]
    split
    · rename_i e
      subst e
      rcases Int.le_total (g0 low p) (g0 idx y) with h4 | h4
      · exact ⟨w, hw, by rw [h2]; omega, h3⟩
      · exact ⟨y, hyo, by omega, .one (List.mem_of_getElem? hy)⟩
    · exact ⟨w, hw, h2, h3⟩
  · intro q hq k z hk hz hzo
    rcases List.mem_append.1 hq with hq | hq
    · have := h.lb1 q (List.mem_append_left _ hq) k z hk hz hzo
      have := gle q.1; omega
    · simp at hq; subst hq
      simp at hk
      rcases Nat.lt_or_ge k j with h1 | h1
      · have := h.lb1 (p, j) (by simp) k z h1 hz hzo
        have := gle p; simp at *; omega
      · have : k = j := by omega
        subst this
        rw [hy] at hz; injection hz with hz
        subst hz
        show g0 _ p ≤ _
        rw [gl, if_pos rfl]; omega
  · rw [hb]
    intro a ha z hz hzn hle hlast w hw hwo
    have := h.lb2 a ha z hz hzn hle hlast w hw hwo
    have := gle a; omega
def lowUp (low : List Int) (p : Nat) (pre : List (Nat × Nat)) : List Int := match pre.getLast? with
  | some u => low.set u.1 (min (g0 low u.1) (g0 low p))
  | none => low
theorem lowUp_len (low : List Int) (p : Nat) (pre : List (Nat × Nat)) : (lowUp low p pre).length = low.length := by
  unfold lowUp; split
  · exact List.length_set
  · rfl
theorem TJ.lowUp_get (h : TJ adj m idx low op (pre ++ [(p, j)]) none cnt out) (x : Nat) : g0 (lowUp low p pre) x = (match pre.getLast? with | some u => if u.1 = x then min (g0 low x) (g0 low p) else g0 low x | none => g0 low x) := by
  unfold lowUp
  cases hu : pre.getLast? with
  | none => rfl
  | some u =>
    have hup : u.1 ∈ (pre ++ [(p, j)]).map Prod.fst := mem_st.2 (.inl (List.mem_map_of_mem (List.mem_of_getLast? hu)))
    simp only []
    rw [g0_set (by rw [h.llow]; exact (h.opm _ (h.path hup)).1)]
    split
    · rename_i e; rw [e]
    · rfl
theorem TJ.lowUp_le (h : TJ adj m idx low op (pre ++ [(p, j)]) none cnt out) (x : Nat) : g0 (lowUp low p pre) x ≤ g0 low x := by
  rw [h.lowUp_get]
  split
  · split <;> omega
  · omega
theorem TJ.done_top (h : TJ adj m idx low op (pre ++ [(p, j)]) none cnt out) (hj : (adj p).length ≤ j) : ∀ y ∈ adj p, g0 idx y ≠ 0 ∧ (y ∈ op → g0 low p ≤ g0 idx y) := by
  intro y hy
  obtain ⟨k, hk⟩ := List.mem_iff_getElem?.1 hy
  have hkl : k < j := by have := (List.getElem?_eq_some_iff.1 hk).1; omega
  refine ⟨?_, h.lb1 (p, j) (by simp) k y hkl hk⟩
  rcases h.expl (p, j) (by simp) k y hkl hk with h1 | h1
  · exact h1
  · cases h1
theorem TJ.pop1 (h : TJ adj m idx low op (pre ++ [(p, j)]) none cnt out) (hj : (adj p).length ≤ j) (hne : g0 low p ≠ g0 idx p) : TJ adj m idx (lowUp low p pre) op pre none cnt out := by
  have hlt : g0 low p < g0 idx p := by have := (h.lw p h.top).1; omega
  obtain ⟨-, wp, hwp, hwl, hwr⟩ := h.lw p h.top
  have hpre : ∃ pre' u, pre = pre' ++ [u] := by
    rcases List.eq_nil_or_concat pre with rfl | ⟨l, b, e⟩
    · obtain ⟨a, ha, hle⟩ := h.pre1 wp hwp
      simp at ha; subst ha; omega
    · exact ⟨l, b, by rw [e, List.concat_eq_append]⟩
  obtain ⟨pre', u, hpe⟩ := hpre
  have hgl : pre.getLast? = some u := by rw [hpe]; simp
  have hum : u.1 ∈ pre.map Prod.fst := by rw [hpe]; simp
  have hup : g0 idx u.1 < g0 idx p := h.last _ hum
  have hul : ∀ b ∈ pre.map Prod.fst, g0 idx b ≤ g0 idx u.1 := by
    intro b hb
    have := h.srt.sublist h.sub
    rw [List.map_append, List.pairwise_append] at this
    have h2 := this.1
    rw [hpe, List.map_append, List.pairwise_append] at h2
    rw [hpe, List.map_append, List.mem_append] at hb
    rcases hb with hb | hb
    · have := h2.2.2 b hb u.1 (by simp); omega
    · simp at hb; subst hb; omega
  have gl : ∀ x, g0 (lowUp low p pre) x = if u.1 = x then min (g0 low x) (g0 low p) else g0 low x := fun x => by rw [h.lowUp_get, hgl]
  have hmem : ∀ b, b ∈ pre.map Prod.fst → b ∈ (pre ++ [(p, j)]).map Prod.fst := fun b hb => mem_st.2 (.inl hb)
  have hd := h.done_top hj
  refine ⟨h.lidx, by rw [lowUp_len]; exact h.llow, h.ub, h.num, h.opm, h.srt, ?_, (fun c e => by cases e), fun q hq => h.nxt q (List.mem_append_left _ hq), fun q hq => h.expl q (List.mem_append_left _ hq), ?_, ?_, fun x hx b hb => h.pre2 x hx b (hmem b hb), (fun c e => by cases e), ?_, ?_, ?_, h.dn, h.outs, h.ond, h.scc, h.siz⟩
  · exact ((List.sublist_append_left pre [(p, j)]).map Prod.fst).trans h.sub
  · intro x hx hn
    have hux : ¬ u.1 = x := fun e => hn (by rw [← e]; exact hum)
    rw [gl, if_neg hux]
    by_cases hxp : x = p
    · subst hxp; exact ⟨fun y hy => (hd y hy).1, hlt⟩
    · exact h.fin x hx fun hh => (mem_st.1 hh).elim hn hxp
  · intro x hx
    obtain ⟨a, ha, hle⟩ := h.pre1 x hx
    rcases mem_st.1 ha with ha | rfl
    · exact ⟨a, ha, hle⟩
    · exact ⟨u.1, hum, by omega⟩
  · intro x hx
    obtain ⟨h1, w, hw, h2, h3⟩ := h.lw x hx
    refine ⟨by have := h.lowUp_le x; omega, ?_⟩
    rw [gl]
    split
    · rename_i e
      subst e
      rcases Int.le_total (g0 low u.1) (g0 low p) with h4 | h4
      · exact ⟨w, hw, by rw [h2]; omega, h3⟩
      · exact ⟨wp, hwp, by omega, (h.pre2 p h.top u.1 (hmem _ hum) (by omega)).trans hwr⟩
    · exact ⟨w, hw, h2, h3⟩
  · intro q hq k z hk hz hzo
    have := h.lb1 q (List.mem_append_left _ hq) k z hk hz hzo
    have := h.lowUp_le q.1; omega
  · intro a ha z hz hzn hle hlast y hy hyo
    have hle' := h.lowUp_le a
    have hau : ∀ (_ : g0 idx p ≤ g0 idx z), a = u.1 := by
      intro hpz
      refine h.inj (h.path (hmem a ha)) (h.path (hmem _ hum)) ?_
      have h1 := hul a ha
      rcases Int.lt_or_le (g0 idx a) (g0 idx u.1) with h2 | h2
      · have := hlast u.1 hum h2; omega
      · omega
    have hup' : g0 (lowUp low p pre) u.1 ≤ g0 low p := by rw [gl, if_pos rfl]; omega
    by_cases hzp : z = p
    · subst hzp
      rw [hau (Int.le_refl _)]
      have := (hd y hy).2 hyo; omega
    · have hzn' : z ∉ (pre ++ [(p, j)]).map Prod.fst := fun hh => (mem_st.1 hh).elim hzn hzp
      rcases Int.lt_or_le (g0 idx z) (g0 idx p) with h1 | h1
      · have := h.lb2 a (hmem a ha) z hz hzn' hle (fun b hb hab => by
          rcases mem_st.1 hb with hb | rfl
          · exact hlast b hb hab
          · exact h1) y hy hyo
        omega
      · have := h.lb2 p (mem_st.2 (.inr rfl)) z hz hzn' h1 (fun b hb hpb => by have := h.lastle b hb; omega) y hy hyo
        rw [hau h1]; omega
theorem TJ.pop0 {A B : List Nat} (h : TJ adj m idx low op (pre ++ [(p, j)]) none cnt out) (hj : (adj p).length ≤ j) (heq : g0 low p = g0 idx p) (ho : op = A ++ p :: B) : TJ adj m idx (lowUp low p pre) A pre none cnt (out ++ [p :: B]) := by
  have hd := h.done_top hj
  have hmem : ∀ b, b ∈ pre.map Prod.fst → b ∈ (pre ++ [(p, j)]).map Prod.fst := fun b hb => mem_st.2 (.inl hb)
  have hsrt := h.srt
  rw [ho, List.pairwise_append] at hsrt
  have hA : ∀ x, x ∈ A → g0 idx x < g0 idx p := fun x hx => hsrt.2.2 x hx p (by simp)
  have hB : ∀ x, x ∈ p :: B → g0 idx p ≤ g0 idx x := by
    intro x hx
    rcases List.mem_cons.1 hx with rfl | hx
    · exact Int.le_refl _
    · have := (List.pairwise_cons.1 hsrt.2.1).1 x hx; omega
  have hAo : ∀ x, x ∈ A ↔ x ∈ op ∧ g0 idx x < g0 idx p := by
    intro x
    rw [ho, List.mem_append]
    constructor
    · intro hx; exact ⟨.inl hx, hA x hx⟩
    · rintro ⟨hx | hx, hl⟩
      · exact hx
      · have := hB x hx; omega
  have hCo : ∀ x, x ∈ p :: B ↔ x ∈ op ∧ g0 idx p ≤ g0 idx x := by
    intro x
    rw [ho, List.mem_append]
    constructor
    · intro hx; exact ⟨.inr hx, hB x hx⟩
    · rintro ⟨hx | hx, hl⟩
      · have := hA x hx; omega
      · exact hx
  have gl : ∀ x, g0 (lowUp low p pre) x = g0 low x := by
    intro x
    rw [h.lowUp_get]
    split
    · rename_i u hu
      split
      · rename_i e
        have hum : u.1 ∈ pre.map Prod.fst := List.mem_map_of_mem (List.mem_of_getLast? hu)
        have h1 := (h.lw u.1 (h.path (hmem _ hum))).1
        have h2 := h.last _ hum
        rw [← e]; omega
      · rfl
    · rfl
  -- what hangs on the new component's members
  have hcl : ∀ x, x ∈ p :: B → ∀ y ∈ adj x, g0 idx y ≠ 0 ∧ (y ∈ op → y ∈ p :: B) := by
    intro x hx y hy
    obtain ⟨hxo, hxl⟩ := (hCo x).1 hx
    by_cases hxp : x = p
    · subst hxp
      refine ⟨(hd y hy).1, fun hyo => (hCo y).2 ⟨hyo, ?_⟩⟩
      have := (hd y hy).2 hyo; omega
    · have hxn : x ∉ (pre ++ [(p, j)]).map Prod.fst := by
        intro hh
        rcases mem_st.1 hh with hh | hh
        · have := h.last x hh; omega
        · exact hxp hh
      refine ⟨(h.fin x hxo hxn).1 y hy, fun hyo => (hCo y).2 ⟨hyo, ?_⟩⟩
      have := h.lb2 p (mem_st.2 (.inr rfl)) x hxo hxn hxl (fun b hb hpb => by have := h.lastle b hb; omega) y hy hyo
      omega
  have hcl2 : ∀ x, (x ∈ p :: B ∨ (g0 idx x ≠ 0 ∧ x < m ∧ x ∉ op)) → ∀ y ∈ adj x, y < m → (y ∈ p :: B ∨ (g0 idx y ≠ 0 ∧ y < m ∧ y ∉ op)) := by
    intro x hx y hy hym
    rcases hx with hx | ⟨h1, h2, h3⟩
    · by_cases hyo : y ∈ op
      · exact .inl ((hcl x hx y hy).2 hyo)
      · exact .inr ⟨(hcl x hx y hy).1, hym, hyo⟩
    · obtain ⟨h4, h5⟩ := h.dn x h2 h1 h3 y hy
      exact .inr ⟨h4, hym, h5⟩
  have hvm : ∀ y, g0 idx y ≠ 0 → y < m := by
    intro y hy
    rcases Nat.lt_or_ge y m with h1 | h1
    · exact h1
    · exfalso; apply hy; unfold g0
      rw [List.getD_eq_getElem?_getD, List.getElem?_eq_none (by rw [h.lidx]; exact h1)]; rfl
  have hcl3 : ∀ x, (x ∈ p :: B ∨ (g0 idx x ≠ 0 ∧ x ∉ op)) → ∀ y ∈ adj x, (y ∈ p :: B ∨ (g0 idx y ≠ 0 ∧ y ∉ op)) := by
    intro x hx y hy
    rcases hx with hx | ⟨h1, h3⟩
    · by_cases hyo : y ∈ op
      · exact .inl ((hcl x hx y hy).2 hyo)
      · exact .inr ⟨(hcl x hx y hy).1, hyo⟩
    · exact .inr (h.dn x (hvm x h1) h1 h3 y hy)
  have hdn3 : ∀ x, (g0 idx x ≠ 0 ∧ x ∉ op) → ∀ y ∈ adj x, (g0 idx y ≠ 0 ∧ y ∉ op) := fun x hx y hy => h.dn x (hvm x hx.1) hx.1 hx.2 y hy
  have hpr : ∀ x, x ∈ p :: B → Rch adj p x := fun x hx => h.pre2 x ((hCo x).1 hx).1 p (mem_st.2 (.inr rfl)) ((hCo x).1 hx).2
  have hrp : ∀ (k : Nat) x, x ∈ p :: B → (g0 idx x).toNat ≤ k → Rch adj x p := by
    intro k
    induction k with
    | zero =>
      intro x hx hk
      have h1 := h.opm x ((hCo x).1 hx).1
      have h2 := h.ub x h1.1
      omega
    | succ k ih =>
      intro x hx hk
      by_cases hxp : x = p
      · subst hxp; exact .refl _
      · obtain ⟨hxo, hxl⟩ := (hCo x).1 hx
        have hxn : x ∉ (pre ++ [(p, j)]).map Prod.fst := by
          intro hh
          rcases mem_st.1 hh with hh | hh
          · have := h.last x hh; omega
          · exact hxp hh
        have hlt := (h.fin x hxo hxn).2
        obtain ⟨-, y, hyo, hyl, hyr⟩ := h.lw x hxo
        have hy : y ∈ p :: B := by
          rcases hyr.closed hcl3 (.inl hx) with h1 | h1
          · exact h1
          · exact absurd hyo h1.2
        have h1 := h.opm x hxo
        have h2 := h.ub x h1.1
        have h3 := h.opm y hyo
        have h4 := h.ub y h3.1
        exact hyr.trans (ih y hy (by omega))
  have hcnt := h.siz
  rw [ho, List.length_append, List.length_cons] at hcnt
  have hnd := h.nodup
  rw [ho, List.nodup_append] at hnd
  refine ⟨h.lidx, by rw [lowUp_len]; exact h.llow, h.ub, h.num, fun x hx => h.opm x ((hAo x).1 hx).1, hsrt.1, ?_, (fun c e => by cases e), fun q hq => h.nxt q (List.mem_append_left _ hq), fun q hq => h.expl q (List.mem_append_left _ hq), ?_, ?_, fun x hx b hb => h.pre2 x ((hAo x).1 hx).1 b (hmem b hb), (fun c e => by cases e), ?_, ?_, ?_, ?_, ?_, ?_, ?_, ?_⟩
  · have h1 := h.sub.filter (fun x => decide (g0 idx x < g0 idx p))
    rw [ho, List.map_append, List.filter_append, List.filter_append] at h1
    have e1 : (pre.map Prod.fst).filter (fun x => decide (g0 idx x < g0 idx p)) = pre.map Prod.fst := List.filter_eq_self.2 fun b hb => decide_eq_true (h.last b hb)
    have e2 : A.filter (fun x => decide (g0 idx x < g0 idx p)) = A := List.filter_eq_self.2 fun b hb => decide_eq_true (hA b hb)
    have e3 : (p :: B).filter (fun x => decide (g0 idx x < g0 idx p)) = [] := List.filter_eq_nil_iff.2 fun b hb => by have := hB b hb; simp; omega
    have e4 : ([(p, j)].map Prod.fst).filter (fun x => decide (g0 idx x < g0 idx p)) = [] := by simp
    rw [e1, e2, e3, e4, List.append_nil, List.append_nil] at h1
    exact h1
  · intro x hx hn
    obtain ⟨hxo, hxl⟩ := (hAo x).1 hx
    rw [gl]
    exact h.fin x hxo fun hh => (mem_st.1 hh).elim hn fun e => by rw [e] at hxl; omega
  · intro x hx
    obtain ⟨hxo, hxl⟩ := (hAo x).1 hx
    obtain ⟨a, ha, hle⟩ := h.pre1 x hxo
    rcases mem_st.1 ha with ha | rfl
    · exact ⟨a, ha, hle⟩
    · omega
  · intro x hx
    obtain ⟨hxo, hxl⟩ := (hAo x).1 hx
    obtain ⟨h1, w, hw, h2, h3⟩ := h.lw x hxo
    rw [gl]
    exact ⟨h1, w, (hAo w).2 ⟨hw, by omega⟩, h2, h3⟩
  · intro q hq k z hk hz hzo
    rw [gl]
    exact h.lb1 q (List.mem_append_left _ hq) k z hk hz ((hAo z).1 hzo).1
  · intro a ha z hz hzn hle hlast y hy hyo
    obtain ⟨hzo, hzl⟩ := (hAo z).1 hz
    rw [gl]
    exact h.lb2 a (hmem a ha) z hzo (fun hh => (mem_st.1 hh).elim hzn fun e => by rw [e] at hzl; omega) hle (fun b hb hab => by
      rcases mem_st.1 hb with hb | rfl
      · exact hlast b hb hab
      · exact hzl) y hy ((hAo y).1 hyo).1
  · intro x hx h0 hxA y hy
    by_cases hxo : x ∈ op
    · have hxC : x ∈ p :: B := (hCo x).2 ⟨hxo, by
        rcases Int.lt_or_le (g0 idx x) (g0 idx p) with h1 | h1
        · exact absurd ((hAo x).2 ⟨hxo, h1⟩) hxA
        · exact h1⟩
      refine ⟨(hcl x hxC y hy).1, fun hyA => ?_⟩
      have h1 := (hAo y).1 hyA
      have h2 := (hCo y).1 ((hcl x hxC y hy).2 h1.1)
      omega
    · obtain ⟨h1, h2⟩ := h.dn x hx h0 hxo y hy
      exact ⟨h1, fun hyA => h2 ((hAo y).1 hyA).1⟩
  · intro x
    rw [List.flatten_append, List.mem_append, h.outs, List.flatten_cons, List.flatten_nil, List.append_nil, hCo, hAo]
    constructor
    · rintro (⟨h1, h2, h3⟩ | ⟨h1, h2⟩)
      · exact ⟨h1, h2, fun hh => h3 hh.1⟩
      · exact ⟨(h.opm x h1).1, (h.opm x h1).2, fun hh => by omega⟩
    · rintro ⟨h1, h2, h3⟩
      by_cases hxo : x ∈ op
      · refine .inr ⟨hxo, ?_⟩
        rcases Int.lt_or_le (g0 idx x) (g0 idx p) with h4 | h4
        · exact absurd ⟨hxo, h4⟩ h3
        · exact h4
      · exact .inl ⟨h1, h2, hxo⟩
  · rw [List.flatten_append, List.nodup_append]
    refine ⟨h.ond, by simpa using hnd.2.1, fun a ha b hb e => ?_⟩
    subst e
    simp only [List.flatten_cons, List.flatten_nil, List.append_nil] at hb
    exact ((h.outs a).1 ha).2.2 ((hCo a).1 hb).1
  · intro C hC
    rcases List.mem_append.1 hC with hC | hC
    · exact h.scc C hC
    · simp at hC; subst hC
      refine ⟨by simp, fun x hx y => ⟨fun hy => ⟨(hrp _ x hx (Nat.le_refl _)).trans (hpr y hy), (hrp _ y hy (Nat.le_refl _)).trans (hpr x hx)⟩, ?_⟩⟩
      rintro ⟨hxy, hyx⟩
      rcases hxy.closed hcl3 (.inl hx) with h1 | h1
      · exact h1
      · exact absurd ((hCo x).1 hx).1 (hyx.closed hdn3 h1).2
  · rw [List.length_append, List.length_singleton]; omega
end
end
end Go.AM.Tarjan
end
section
set_option maxRecDepth 100000
set_option maxHeartbeats 4000000
set_option linter.unusedVariables false
set_option linter.unusedSimpArgs false
namespace Go.AM.Tryd
open Go Go.AM Go.AM.D
def cmpK (a b : Int) : Int := if a < b then -1 else if a > b then 1 else 0
def cmpB (a b : ByteArray) : Int := Lib.compareBytes a.data.toList b.data.toList
def orF : List Int → Int
  | [] => 0
  | x :: l => if x ≠ 0 then x else orF l
def cmpT (a b : Term) : Int := orF [cmpK a.kind b.kind, cmpB a.text b.text, cmpB a.extra b.extra]
def lessT (a b : Term) : Bool := decide (cmpT a b < 0)
def orderT (a b : Term) : Int := if lessT a b = true then -1 else if lessT b a = true then 1 else 0
theorem nan_ (x : Int) : PFn PR (.fn (.func 75) [] []) [.lit (.int .i64 x)] (.lit (.bool false)) := by
  refine PFn_of Go.Proofs.Tryz.func75 rfl (by rfl) Go.Proofs.Tryz.ntmps75 rfl (by simp) fun h => ?_
  refine AW_x [] [] ?_
  exact AW_ret (ret_le2 (.inl rfl) rfl (by simp) (.refl _))
theorem cmpk_ (a b : Int) : PFn PR (.fn (.func 59) [] []) [.lit (.int .i64 a), .lit (.int .i64 b)] (.lit (.int .i64 (cmpK a b))) := by
  refine PFn_of Go.Proofs.Tryz.func59 rfl (by rfl) Go.Proofs.Tryz.ntmps59 rfl (by simp) fun h => ?_
  refine AW_x [] [] ?_
  refine ⟨_, (nan_ _), _, (nan_ _), nofun, fun _ => ?_⟩
  refine ⟨nofun, fun _ => ?_⟩
  refine brD (fun hc9 => ?_) (fun hc9 => ?_)
  · skip
    have hw : cmpK a b = -1 := by rw [cmpK, if_pos hc9]
    exact AW_ret (ret_le2 (.inl rfl) rfl (by rw [hw]) (.refl _))
  · skip
    refine brD (fun hc11 => ?_) (fun hc11 => ?_)
    · skip
      have hw : cmpK a b = 1 := by rw [cmpK, if_neg hc9, if_pos hc11]
      exact AW_ret (ret_le2 (.inl rfl) rfl (by rw [hw]) (.refl _))
    · skip
      have hw : cmpK a b = 0 := by rw [cmpK, if_neg hc9, if_neg hc11]
      exact AW_ret (ret_le2 (.inl rfl) rfl (by rw [hw]) (.refl _))
theorem or_ (l : List Int) (hl : l.length ≤ 1048576) : PFn PR (.fn (.func 58) [] []) [.sl .any 1 (l.map eI64)] (.lit (.int .i64 (orF l))) := by
  refine PFn_of Go.Proofs.Tryz.func58 rfl (by rfl) Go.Proofs.Tryz.ntmps58 rfl (by simp) fun h => ?_
  refine AW_x [] [] ?_
  refine ⟨L32, _, lm, ?_⟩
  refine AW_it [] [] [(2, _), (3, _), (6, _), (7, _)] (fun (i : Nat) => [(8, .lit (.int .i64 ((i : Nat) : Int)))]) (fun (i : Nat) => h) (fun (i : Nat) => i ≤ l.length ∧ orF l = orF (l.drop i)) (fun (i : Nat) => l.length - i) (0) ⟨rfl, rfl, rfl, rfl, trivial⟩ ⟨rfl, trivial⟩ rfl (⟨by omega, rfl⟩) ?_
  rintro i ⟨hIi, hSi⟩
  refine brD (fun hc0 => ?_) (fun hc0 => ?_)
  · skip
    obtain ⟨x, hrx, hdx, hmx⟩ := drop_at (l := l) (i := i) (by omega)
    rw [hdx, orF] at hSi
    refine ⟨L32, _, ⟨rfl, (by first | decide | omega), (mget hrx)⟩, T3, brD (fun hc5 => ?_) (fun hc5 => ?_)⟩
    · skip
      rw [if_pos hc5] at hSi
      exact AW_ret (ret_le2 (.inl rfl) rfl (by rw [hSi]) (.refl _))
    · skip
      rw [if_neg hc5] at hSi
      refine ⟨_, f1 (by first | omega | (simp_all <;> omega)), ?_⟩
      exact ⟨i + 1, ⟨by omega, hSi⟩, by omega, ⟨rfl, ⟨rfl, rfl, rfl, rfl, rfl, trivial⟩, rfl, rfl, rfl⟩⟩
  · skip
    rw [drop_end (l := l) (i := i) (by omega), orF] at hSi
    exact AW_ret (ret_le2 (.inl rfl) rfl (by rw [hSi]) (.refl _))
theorem cmps82_ (a b : ByteArray) : PFn PR (.fn (.func 81) [] []) [.lit (.string a), .lit (.string b)] (.lit (.int .i64 (cmpB a b))) :=
  PFn_extern (us := [.string a, .string b]) Go.Proofs.Tryz.func81 (by rfl) rfl (by kernel_rfl) (by rfl) (fun w => Lib.run_compareString a b w) rfl
theorem cmps76_ (a b : ByteArray) : PFn PR (.fn (.func 76) [] []) [.lit (.string a), .lit (.string b)] (.lit (.int .i64 (cmpB a b))) := by
  refine PFn_of Go.Proofs.Tryz.func76 rfl (by rfl) Go.Proofs.Tryz.ntmps76 rfl (by simp) fun h => ?_
  refine AW_x [] [] ?_
  refine ⟨_, (cmps82_ _ _), ?_⟩
  exact AW_ret (ret_le2 (.inl rfl) rfl rfl (.refl _))
theorem cmps63_ (a b : ByteArray) : PFn PR (.fn (.func 60) [] []) [.lit (.string a), .lit (.string b)] (.lit (.int .i64 (cmpB a b))) := by
  refine PFn_of Go.Proofs.Tryz.func60 rfl (by rfl) Go.Proofs.Tryz.ntmps60 rfl (by simp) fun h => ?_
  refine AW_x [] [] ?_
  refine ⟨_, (cmps76_ _ _), ?_⟩
  exact AW_ret (ret_le2 (.inl rfl) rfl rfl (.refl _))
theorem compare_ (a b : Term) : PFn PR (.fn (.func 37) [] []) [.agg (eTerm a), .agg (eTerm b)] (.lit (.int .i64 (cmpT a b))) := by
  refine PFn_of Go.Proofs.Tryz.func37 rfl (by rfl) Go.Proofs.Tryz.ntmps37 rfl (by simp) fun h => ?_
  refine AW_x [] [] ?_
  refine ⟨⟨hmixed, by kernel_rfl⟩, F25_0, T23, F25_0, T23, _, (cmpk_ _ _), F25_1, T9, F25_1, T9, _, (cmps63_ _ _), F25_2, T9, F25_2, T9, _, (cmps63_ _ _), (.sl .any 1 ([cmpK a.kind b.kind, cmpB a.text b.text, cmpB a.extra b.extra].map eI64)), PO_any (PO_buildSlice (n := 3) (S := 1) (rs := eI64 (cmpK a.kind b.kind) ++ (eI64 (cmpB a.text b.text) ++ (eI64 (cmpB a.extra b.extra) ++ []))) rfl un32 ty3 z3 rfl rfl rfl (by decide) rfl (by decide)) rfl, _, (or_ _ (by first | assumption | (simp; done) | omega)), ?_⟩
  exact AW_ret (ret_le2 (.inl rfl) rfl rfl (.refl _))
theorem less_ (a b : Term) : PFn PR (.fn (.func 18) [] []) [.agg (eTerm a), .agg (eTerm b)] (.lit (.bool (lessT a b))) := by
  refine PFn_of Go.Proofs.Tryz.func18 rfl (by rfl) Go.Proofs.Tryz.ntmps18 rfl (by simp) fun h => ?_
  refine AW_x [] [] ?_
  refine ⟨T25, T25, _, (compare_ _ _), ?_⟩
  exact AW_ret (ret_le2 (.inl rfl) rfl rfl (.refl _))
theorem order_ (a b : Term) : PFn PR (.fn (.func 16) [] []) [.agg (eTerm a), .agg (eTerm b)] (.lit (.int .i64 (orderT a b))) := by
  refine PFn_of Go.Proofs.Tryz.func16 rfl (by rfl) Go.Proofs.Tryz.ntmps16 rfl (by simp) fun h => ?_
  refine AW_x [] [] ?_
  refine ⟨T25, T25, _, (less_ _ _), fun hc1 => ?_, fun hc1 => ?_⟩
  · skip
    have hw : orderT a b = -1 := by rw [orderT, if_pos hc1]
    exact AW_ret (ret_le2 (.inl rfl) rfl (by rw [hw]) (.refl _))
  · skip
    refine ⟨T25, T25, _, (less_ _ _), fun hc3 => ?_, fun hc3 => ?_⟩
    · skip
      have hw : orderT a b = 1 := by rw [orderT, if_neg (by simpa using hc1), if_pos hc3]
      exact AW_ret (ret_le2 (.inl rfl) rfl (by rw [hw]) (.refl _))
    · skip
      have hw : orderT a b = 0 := by rw [orderT, if_neg (by simpa using hc1), if_neg (by simpa using hc3)]
      exact AW_ret (ret_le2 (.inl rfl) rfl (by rw [hw]) (.refl _))
end Go.AM.Tryd
end
section
set_option maxRecDepth 100000
set_option maxHeartbeats 4000000
set_option linter.unusedVariables false
set_option linter.unusedSimpArgs false
namespace Go.AM.Tryd
open Go Go.AM Go.AM.D
def ixO (p : Int) : List Int → Int → Int
  | [], _ => -1
  | x :: l, i => if p = x then i else ixO p l (i + 1)
theorem index39_ (b off cap : Nat) (os : List Int) (p : Int) (h : Heap) (hp : PartI h b off os) (hl : os.length ≤ 1099511627776) : AFn PR (.fn (.func 33) [] []) [.ms b off 1 os.length cap, .lit (.int .i64 p)] h (fun a h' => a = .lit (.int .i64 (ixO p os 0)) ∧ h.le h') := by
  refine AFn_q Go.Proofs.Tryz.func33 rfl (by rfl) Go.Proofs.Tryz.ntmps33 rfl (by simp) ?_
  refine AW_x [] [] ?_
  refine ⟨L32, ?_⟩
  refine AW_it [] [(4, 3), (4, 4)] [(0, _), (1, _), (4, _), (7, _)] (fun (i : Nat) => [(8, .lit (.int .i64 ((i : Nat) : Int)))]) (fun (i : Nat) => h) (fun (i : Nat) => i ≤ os.length ∧ ixO p os 0 = ixO p (os.drop i) i) (fun (i : Nat) => os.length - i) (0) ⟨rfl, rfl, rfl, rfl, trivial⟩ ⟨rfl, trivial⟩ rfl (⟨by omega, rfl⟩) ?_
  rintro i ⟨hIi, hSi⟩
  refine brD (fun hc0 => ?_) (fun hc0 => ?_)
  · skip
    obtain ⟨x, hrx, hdx, hmx⟩ := drop_at (l := os) (i := i) (by omega)
    rw [hdx, ixO] at hSi
    refine ⟨(.ptr b (off + i)), PO_ixo rfl un32 ty3 rfl rfl (by omega), (.lit (.int .i64 x)), PO_ldo rfl ty3 rfl hp hrx, brD (fun hc4 => ?_) (fun hc4 => ?_)⟩
    · skip
      rw [if_pos hc4] at hSi
      exact AW_ret (ret_le2 (.inl rfl) rfl (by rw [hSi]) (.refl _))
    · skip
      rw [if_neg hc4] at hSi
      refine ⟨_, f1 (by first | omega | (simp_all <;> omega)), ?_⟩
      exact ⟨i + 1, ⟨by omega, hSi⟩, by omega, ⟨rfl, ⟨rfl, rfl, rfl, rfl, rfl, trivial⟩, rfl, rfl, rfl⟩⟩
  · skip
    rw [drop_end (l := os) (i := i) (by omega), ixO] at hSi
    exact AW_ret (ret_le2 (.inl rfl) rfl (by rw [hSi]) (.refl _))
theorem clone40_ (b off cap : Nat) (os : List Int) (h : Heap) (hp : PartI h b off os) (hpos : 0 < os.length) (hl : os.length ≤ 1099511627776) : AFn PR (.fn (.func 34) [] []) [.ms b off 1 os.length cap] h (fun a h' => ∃ b' ns, h b' = none ∧ a = .ms b' 0 1 os.length ns.length ∧ ns.take os.length = os ∧ os.length ≤ ns.length ∧ h' = h.upd b' (some (.row (ints ns)))) := by
  refine AFn_q Go.Proofs.Tryz.func34 rfl (by rfl) Go.Proofs.Tryz.ntmps34 rfl (by simp) ?_
  refine AW_x [] [(1, 1)] ?_
  refine ⟨1, (.lit (.bool false)), PO_msNil rfl un32 rfl, nofun, fun _ => ?_⟩
  refine ⟨(.sl .full 1 []), PO_buildSlice0 rfl un32 ty3, ?_⟩
  refine AL_m rfl rfl rfl (MO_clone rfl un32 un32 ty3 z3 by3 rfl rfl hp hpos (by omega) (by omega)) ?_
  rintro _ _ ⟨b', ns, hb', rfl, hns, hnl, rfl⟩
  refine AL_x [] [] 3 ?_
  refine AW_ret ?_
  exact ret_R (.inl rfl) rfl ⟨b', ns, hb', rfl, hns, hnl, rfl⟩
end Go.AM.Tryd
end
section
set_option linter.unusedVariables false
set_option linter.unusedSimpArgs false
namespace Go.AM.Tryd
open Go Go.AM Go.AM.D Go.AM.Tarjan
def adjG (g : Graph) (p : Nat) : List Nat := (g.out.getD p []).map fun e => e.to.toNat
def eVis (q : Nat × Nat) : List AV := [.lit (.int .i64 ((q.1 : Nat) : Int)), .lit (.int .i64 ((q.2 : Nat) : Int))]
def stc (st : List (Nat × Nat)) : List AV := (st.map eVis).flatten
def nI (l : List Nat) : List Int := l.map fun x => ((x : Nat) : Int)
theorem nI_len (l : List Nat) : (nI l).length = l.length := List.length_map ..
theorem stc_len (st : List (Nat × Nat)) : (stc st).length = st.length * 2 := by
  rw [stc, flat_length (S := 2) (fun e he => by
    obtain ⟨q, _, rfl⟩ := List.mem_map.1 he; rfl), List.length_map]
theorem stc_snoc (pre : List (Nat × Nat)) (q : Nat × Nat) : stc (pre ++ [q]) = stc pre ++ eVis q := by simp [stc]
section
variable {pre : List (Nat × Nat)} {p j : Nat} {rest : List AV}
theorem stc_p : loaded (.int .i64) 1 ((stc (pre ++ [(p, j)]) ++ rest).drop (pre.length * 2 + 0)) = some (.lit (.int .i64 ((p : Nat) : Int))) := by
  rw [stc_snoc, List.append_assoc, List.drop_append_of_le_length (by rw [stc_len]; omega), List.drop_of_length_le (by rw [stc_len]; omega)]
  rfl
theorem stc_n : loaded (.int .i64) 1 ((stc (pre ++ [(p, j)]) ++ rest).drop (pre.length * 2 + 1)) = some (.lit (.int .i64 ((j : Nat) : Int))) := by
  rw [stc_snoc, List.append_assoc, List.drop_append, List.drop_of_length_le (by rw [stc_len]; omega), stc_len, show pre.length * 2 + 1 - pre.length * 2 = 1 by omega]
  rfl
theorem stc_set {j' : Nat} : setCells (stc (pre ++ [(p, j)]) ++ rest) (pre.length * 2 + 1) [.lit (.int .i64 ((j' : Nat) : Int))] = stc (pre ++ [(p, j')]) ++ rest := by
  simp only [setCells, stc_snoc, List.append_assoc, List.length_singleton]
  rw [List.take_append, List.drop_append, List.take_of_length_le (by rw [stc_len]; omega), List.drop_of_length_le (by rw [stc_len]; omega), stc_len, show pre.length * 2 + 1 - pre.length * 2 = 1 by omega, show pre.length * 2 + 1 + 1 - pre.length * 2 = 2 by omega]
  simp [eVis]
theorem stc_take {k : Nat} {cs : List AV} {st : List (Nat × Nat)} (h : st.length = k) : (stc st ++ cs).take (k * 2) = stc st := List.take_left' (by rw [stc_len, h])
end
section
variable {P : Program} {ρ : Option Nat} {σ : AS} {o : Oper} {h0 : Heap} {L : List (Nat × AObj)}
theorem ixs {S j len : Nat} (h : j < len) : S = S ∧ 0 ≤ ((j : Nat) : Int) ∧ ((j : Nat) : Int) < len ∧ 0 + ((j : Nat) : Int).toNat * S = j * S := ⟨rfl, by omega, by omega, by rw [Int.toNat_natCast]; omega⟩
theorem ldb {j : Nat} {bs : List Bool} (hj : j < bs.length) : loaded .bool 1 ((bools bs).drop j) = some (.lit (.bool (bs.getD j false))) := by
  simp only [loaded, isAggD, List.head?_drop]
  exact bools_get hj
theorem MO_sS {x y : Operand} {t : TypeId} {dd : TypeDesc} {m b off i : Nat} {cs cs' : List AV} {v : AV} (ho : o.op = .store t x y) (ht : TyF P t dd m) (hx : ev σ.tm x = some (.ptr b off)) (hy : ev σ.tm y = some v) (hS : Sep h0 σ.h L) (hi : L[i]? = some (b, .row cs))
    (h1 : acell1 v = true) (hn : (acells v).length = m) (hle : off + m ≤ cs.length) (hc : setCells cs off (acells v) = cs') : MO P ρ o σ (fun u h' => u = .junk ∧ Sep h0 h' (L.set i (b, .row cs'))) :=
  MO_heap (MO_store ho ht hx hy (hS.get i hi) h1 hn hle) fun v h' ⟨e1, e2⟩ => ⟨e1, by rw [e2, hc]; exact hS.set i hi⟩
theorem MO_sN {x y : Operand} {t : TypeId} {b j i : Nat} {ns : List Int} {v : Int} (ho : o.op = .store t x y) (ht : TyF P t (.int .i64) 1) (hx : ev σ.tm x = some (.ptr b j)) (hy : ev σ.tm y = some (.lit (.int .i64 v))) (hS : Sep h0 σ.h L) (hi : L[i]? = some (b, .row (ints ns))) (hj : j < ns.length) :
    MO P ρ o σ (fun u h' => u = .junk ∧ Sep h0 h' (L.set i (b, .row (ints (ns.set j v))))) :=
  MO_heap (MO_stn ho ht hx hy (hS.get i hi) hj) fun v h' ⟨e1, e2⟩ => ⟨e1, by rw [e2]; exact hS.set i hi⟩
theorem MO_sB {x y : Operand} {t : TypeId} {b j i : Nat} {bs : List Bool} {v : Bool} (ho : o.op = .store t x y) (ht : TyF P t .bool 1) (hx : ev σ.tm x = some (.ptr b j)) (hy : ev σ.tm y = some (.lit (.bool v))) (hS : Sep h0 σ.h L) (hi : L[i]? = some (b, .row (bools bs))) (hj : j < bs.length) :
    MO P ρ o σ (fun u h' => u = .junk ∧ Sep h0 h' (L.set i (b, .row (bools (bs.set j v))))) :=
  MO_heap (MO_stb ho ht hx hy (hS.get i hi) hj) fun v h' ⟨e1, e2⟩ => ⟨e1, by rw [e2]; exact hS.set i hi⟩
theorem MO_sV {s x : Operand} {t tx e e' : TypeId} {bytes b cap i : Nat} {dd : TypeDesc} {own' : Own} {st : List (Nat × Nat)} {k : Nat} {q : Nat × Nat} {rest : List AV} (ho : o.op = .call { callee := .builtin .append, args := #[s, x], argTypes := #[t, tx] })
    (ht : P.underlying t = some (.slice e)) (htx : P.underlying tx = some (.slice e')) (he : TyF P e dd 2) (hz : ZeroF P e (eVis (0, 0))) (hb : (P.info? e).map (·.bytes) = some bytes)
    (hse : ev σ.tm s = some (.ms b 0 2 k cap)) (hk' : st.length = k) (hxe : ev σ.tm x = some (.sl own' 2 [eVis q])) (hS : Sep h0 σ.h L) (hi : L[i]? = some (b, .row (stc st ++ rest))) (hcap : (stc st ++ rest).length = cap * 2) (hlim : (st.length + 1) * bytes ≤ 140737488355328) (h63 : st.length + 1 ≤ 9223372036854775807) :
    MO P ρ o σ (fun u h' => ∃ b' cap' rest', u = .ms b' 0 2 (st ++ [q]).length cap' ∧ (stc (st ++ [q]) ++ rest').length = cap' * 2 ∧ Sep h0 h' (L.set i (b', .row (stc (st ++ [q]) ++ rest')))) := by
  subst hk'
  have hk : st.length ≤ cap := by
    have := hcap; rw [List.length_append, stc_len] at this; omega
  refine MO_heap (MO_append_ms (b := b) (k := st.length) (cap := cap) (cs := stc st ++ rest) (xs := [eVis q]) ho ht htx he hz rfl hb (.inl ⟨hse, hS.get i hi, hcap, hk⟩) hxe (by simp) (by simpa using hlim) (by simpa using h63)) ?_
  rintro u h' ⟨b', cap', rest', rfl, hb', rfl, hc, hlen, hrest⟩
  have hrow : (stc st ++ rest).take (st.length * 2) ++ [eVis q].flatten ++ rest' = stc (st ++ [q]) ++ rest' := by
    rw [stc_take rfl, stc_snoc]; simp
  rw [hrow] at hlen ⊢
  exact ⟨b', cap', rest', by simp, hlen, hS.re i hi hb'⟩
end
structure GSt where
  idx : List Int
  low : List Int
  on : List Bool
  vo : AV
  op : List Nat
  LO : List (Nat × AObj)
  vg : AV
  gs : List GR
  LG : List (Nat × AObj)
  st : List (Nat × Nat)
  cnt : Nat
def GSt.out (S : GSt) : List (List Nat) := S.gs.map fun g => g.l.map Int.toNat
structure GO (g : Graph) (h hp : Heap) (bi bl bn : Nat) (LS : List (Nat × AObj)) (S : GSt) (fr : Option Nat) (out : List (List Nat)) : Prop where
  tj : TJ (adjG g) g.names.length S.idx S.low S.op S.st fr S.cnt out
  lon : S.on.length = g.names.length
  on : ∀ p, p < g.names.length → S.on.getD p false = decide (p ∈ S.op)
  opn : OpL S.vo (nI S.op) S.LO
  grp : GrL S.vg S.gs S.LG
  gout : S.gs.map GR.l = out.map nI
  gok : ∀ x ∈ S.gs, x.ok
  sep : Sep h hp ((bi, .row (ints S.idx)) :: (bl, .row (ints S.low)) :: (bn, .row (bools S.on)) :: (LS ++ (S.LO ++ S.LG)))
section
variable {g : Graph} {h hp hp' : Heap} {bi bl bn : Nat} {LS : List (Nat × AObj)} {S : GSt} {fr : Option Nat} {out : List (List Nat)}
theorem GO.cnt_le (k : GO g h hp bi bl bn LS S fr out) : S.cnt ≤ g.names.length := by have := k.tj.num; omega
theorem count_zero {l : List Int} {c : Nat} (hc : c < l.length) (h : g0 l c = 0) : 1 ≤ l.count 0 := by
  have : (0 : Int) ∈ l := by
    have h1 : l[c]? = some 0 := by
      rw [List.getElem?_eq_getElem hc]
      simp only [g0, List.getD_eq_getElem?_getD, List.getElem?_eq_getElem hc, Option.getD_some] at h
      rw [h]
    exact List.mem_of_getElem? h1
  exact List.count_pos_iff.2 this
theorem GO.room (k : GO g h hp bi bl bn LS S fr out) {c : Nat} (hf : fr = some c) : S.cnt + 1 ≤ g.names.length := by
  obtain ⟨h1, h2⟩ := k.tj.fre c hf
  have := count_zero (by rw [k.tj.lidx]; exact h1) h2
  have := k.tj.num
  omega
theorem GO.out_len (k : GO g h hp bi bl bn LS S fr out) : S.gs.length = out.length := by
  have := congrArg List.length k.gout; simpa using this
def frN : Option Nat → Nat
  | some _ => 1
  | none => 0
def pst (st : List (Nat × Nat)) : Option Nat → List (Nat × Nat)
  | some c => st ++ [(c, 0)]
  | none => st
theorem adj_get {p j : Nat} {es : List Edg} {e : Edg} (h1 : g.out[p]? = some es) (h2 : es[j]? = some e) : (adjG g p)[j]? = some e.to.toNat := by
  rw [adjG, List.getD_eq_getElem?_getD, h1, Option.getD_some, List.getElem?_map, h2]; rfl
theorem adj_len {p : Nat} {es : List Edg} (h1 : g.out[p]? = some es) : (adjG g p).length = es.length := by
  rw [adjG, List.getD_eq_getElem?_getD, h1, Option.getD_some, List.length_map]
theorem bset {bs : List Bool} {i j : Nat} {v : Bool} (hi : i < bs.length) : (bs.set i v).getD j false = if i = j then v else bs.getD j false := by
  simp only [List.getD_eq_getElem?_getD, List.getElem?_set]
  split
  · rename_i e; subst e; simp [hi]
  · rfl
def clr : List Bool → List Nat → List Bool
  | bs, [] => bs
  | bs, x :: r => clr (bs.set x false) r
theorem clr_len : ∀ (C : List Nat) (bs : List Bool), (clr bs C).length = bs.length
  | [], _ => rfl
  | x :: r, bs => by rw [clr, clr_len r, List.length_set]
theorem clr_get : ∀ (C : List Nat) (bs : List Bool) (j : Nat), (∀ x ∈ C, x < bs.length) → (clr bs C).getD j false = (bs.getD j false && !decide (j ∈ C))
  | [], bs, j, _ => by simp [clr]
  | x :: r, bs, j, h => by
    rw [clr, clr_get r _ j (fun y hy => by rw [List.length_set]; exact h y (List.mem_cons_of_mem _ hy)), bset (h x (List.mem_cons_self ..))]
    by_cases e : x = j
    · subst e; simp
    · have : ¬ j = x := fun h => e h.symm
      simp [e, this]
theorem clr_snoc (C : List Nat) (x : Nat) : ∀ bs : List Bool, clr bs (C ++ [x]) = (clr bs C).set x false := by
  induction C with
  | nil => intro bs; rfl
  | cons y r ih => intro bs; exact ih _
theorem snoc_of {α : Type} {l : List α} (h : 0 < l.length) : ∃ pre q, l = pre ++ [q] := by
  rcases List.eq_nil_or_concat l with rfl | ⟨a, b, e⟩
  · simp at h
  · exact ⟨a, b, by rw [e, List.concat_eq_append]⟩
theorem GO.new (k : GO g h hp bi bl bn LS S fr out) {pre : List (Nat × Nat)} {p j : Nat} (e : pst S.st fr = pre ++ [(p, j)]) (h0 : g0 S.idx p = 0) : fr = some p ∧ pre = S.st ∧ j = 0 := by
  cases fr with
  | some c =>
    have := List.append_inj' e rfl
    simp at this
    exact ⟨by rw [this.2.1], this.1.symm, this.2.2.symm⟩
  | none =>
    have e' : S.st = pre ++ [(p, j)] := e
    have hm : p ∈ S.op := k.tj.path (by rw [e']; simp)
    exact absurd h0 (k.tj.opm p hm).2
theorem GO.old (k : GO g h hp bi bl bn LS S fr out) {pre : List (Nat × Nat)} {p j : Nat} (e : pst S.st fr = pre ++ [(p, j)]) (hn : ¬ (j = 0 ∧ g0 S.idx p = 0)) : fr = none ∧ S.st = pre ++ [(p, j)] := by
  cases fr with
  | some c =>
    have := List.append_inj' e rfl
    simp at this
    obtain ⟨h1, h2, h3⟩ := this
    subst h2
    exact absurd ⟨h3.symm, (k.tj.fre c rfl).2⟩ hn
  | none => exact ⟨rfl, e⟩
theorem lowUp_top {pre : List (Nat × Nat)} {p j : Nat} {idx low : List Int} {op : List Nat} {cnt m : Nat} {adj : Nat → List Nat} (k : TJ adj m idx low op (pre ++ [(p, j)]) none cnt out) : g0 (lowUp low p pre) p = g0 low p := by
  rw [k.lowUp_get]
  split
  · rename_i u hu
    rw [if_neg]
    intro e
    have := k.last u.1 (List.mem_map_of_mem (List.mem_of_getLast? hu))
    rw [e] at this
    omega
  · rfl
theorem ixO_at (p : Nat) : ∀ (A B : List Nat) (i : Int), p ∉ A → ixO p (nI (A ++ p :: B)) i = i + A.length
  | [], B, i, _ => by simp [nI, ixO]
  | a :: A, B, i, h => by
    have h1 : ¬ ((p : Int) = (a : Int)) := fun e => h (by rw [Int.ofNat_inj.1 e]; exact List.mem_cons_self ..)
    have ih := ixO_at p A B (i + 1) (fun hm => h (List.mem_cons_of_mem _ hm))
    simp only [nI, List.cons_append, List.map_cons, ixO, if_neg h1] at ih ⊢
    rw [ih]; simp; omega
theorem nI_get {C : List Nat} {k z : Nat} (h : C[k]? = some z) : (nI C)[k]? = some ((z : Nat) : Int) := by rw [nI, List.getElem?_map, h]; rfl
end
section
variable {P : Program} {ρ : Option Nat} {σ : AS} {o : Oper} {h0 : Heap} {L L1 L2 : List (Nat × AObj)}
theorem MO_sLit {t e : TypeId} {n S : Nat} {d : TypeDesc} {parts : Array (Nat × Operand)} {zs : List AV} {vs : List (Nat × AV)} {rs : List AV} (ho : o.op = .buildSlice t n parts) (ht : P.underlying t = some (.slice e)) (he : TyF P e d S) (hz : ZeroF P e zs)
    (hzl : zs.length = S) (hv : aparts σ.tm parts.toList = some vs) (hr : afill (fun i => some (i * S, S)) (azeros zs n) vs = some rs) (hlim : n * S ≤ 16777216) (hrl : rs.length = n * S) (hpos : 0 < n * S) (hS : Sep h0 σ.h (L1 ++ L2)) :
    MO P ρ o σ (fun u h' => ∃ b, u = .ms b 0 S n n ∧ Sep h0 h' (L1 ++ (b, .row rs) :: L2)) :=
  MO_heap (MO_buildSlice ho ht he hz hzl hv hr hlim hrl hpos) fun u h' ⟨b, h1, h2, h3⟩ => ⟨b, h2, by rw [h3]; exact Sep.ins hS h1⟩
theorem bools_zero (c : Nat) : azeros [.lit (.bool false)] c = bools (List.replicate c false) := by
  simp only [azeros, bools]
  induction c with
  | zero => rfl
  | succ c ih => simp only [List.replicate_succ, List.flatten_cons, ih]; rfl
theorem MO_sMkB {t e : TypeId} {bytes : Nat} {x y : Operand} {n : Nat} {k k' : IntKind} (ho : o.op = .makeSlice t x y) (ht : P.underlying t = some (.slice e)) (he : TyF P e .bool 1) (hz : ZeroF P e [.lit (.bool false)])
    (hb : (P.info? e).map (·.bytes) = some bytes) (hx : ev σ.tm x = some (.lit (.int k (n : Nat)))) (hy : ev σ.tm y = some (.lit (.int k' (n : Nat)))) (hlim : bytes * n ≤ 281474976710656) (hc : n ≤ 9223372036854775807) (hS : Sep h0 σ.h (L1 ++ L2)) :
    MO P ρ o σ (fun u h' => ∃ b, u = .ms b 0 1 n n ∧ Sep h0 h' (L1 ++ (b, .row (bools (List.replicate n false))) :: L2)) :=
  MO_heap (MO_makeSlice ho ht he hz rfl hb hx hy (Nat.le_refl _) hlim hc) fun u h' ⟨b, h1, h2, h3⟩ => ⟨b, h2, by rw [h3, bools_zero]; exact Sep.ins hS h1⟩
theorem MO_mkn {t e : TypeId} {bytes : Nat} {x y : Operand} {n : Nat} {k k' : IntKind} (ho : o.op = .makeSlice t x y) (ht : P.underlying t = some (.slice e)) (he : TyF P e (.int .i64) 1) (hz : ZeroF P e [.lit (.int .i64 0)])
    (hb : (P.info? e).map (·.bytes) = some bytes) (hx : ev σ.tm x = some (.lit (.int k (n : Nat)))) (hy : ev σ.tm y = some (.lit (.int k' (n : Nat)))) (hlim : bytes * n ≤ 281474976710656) (hc : n ≤ 9223372036854775807) :
    MO P ρ o σ (fun u h' => ∃ b, σ.h b = none ∧ u = .ms b 0 1 n n ∧ h' = σ.h.upd b (some (.row (ints (List.replicate n 0))))) :=
  MO_heap (MO_makeSlice ho ht he hz rfl hb hx hy (Nat.le_refl _) hlim hc) fun u h' ⟨b, h1, h2, h3⟩ => ⟨b, h1, h2, by rw [h3, ints_zero]⟩
theorem PO_tailO {t e : TypeId} {dd : TypeDesc} {x : Operand} {y : Operand} {b a m len cap : Nat} (ho : o.op = .slice t x (some y) none none) (ht : P.underlying t = some (.slice e)) (he : TyF P e dd 1) (hx : ev σ.tm x = some (.ms b 0 1 len cap)) (hy : ev σ.tm y = some (.lit (.int .i64 (a : Nat))))
    (hl : len = a + m) (hm : 0 < m) (hc : len ≤ cap) : PO P ρ o σ (.ms b a 1 m (cap - a)) := by
  subst hl
  refine PO_eqA (PO_slice_ms (i := ((a : Nat) : Int)) (j := ((a + m : Nat) : Int)) ho ht he hx (by simp [bnd, hy]) rfl (by omega) (by omega) (by omega) (.inr (by omega))) ?_
  simp only [Int.toNat_natCast, Nat.mul_one, Nat.zero_add, Nat.add_sub_cancel_left]
theorem PO_headO {t e : TypeId} {dd : TypeDesc} {x : Operand} {y : Operand} {b a S len cap : Nat} (ho : o.op = .slice t x none (some y) none) (ht : P.underlying t = some (.slice e)) (he : TyF P e dd S) (hx : ev σ.tm x = some (.ms b 0 S len cap)) (hy : ev σ.tm y = some (.lit (.int .i64 (a : Nat))))
    (hc : a ≤ cap) : PO P ρ o σ (.ms b 0 S a cap) := by
  refine PO_eqA (PO_slice_ms (i := 0) (j := ((a : Nat) : Int)) ho ht he hx rfl (by simp [bnd, hy]) (by omega) (by omega) (by omega) (.inl rfl)) ?_
  simp
theorem PartI_of {hp : Heap} {b : Nat} {ns : List Int} {A C : List Nat} (hb : hp b = some (.row (ints ns))) (ht : ns.take (nI (A ++ C)).length = nI (A ++ C)) : PartI hp b A.length (nI C) := by
  refine ⟨_, hb, ?_⟩
  have h1 : (ns.drop A.length).take C.length = nI C := by
    rw [nI_len, List.length_append] at ht
    rw [List.take_drop, ht, nI, List.map_append, List.drop_append, List.drop_of_length_le (by simp)]
    simp [nI]
  rw [nI_len, ints, ← List.map_drop, ← List.map_take, h1]
  rfl
end
section
variable {g : Graph} {h hp hp' : Heap} {bi bl bn bs : Nat} {LS LS' : List (Nat × AObj)} {S : GSt} {fr : Option Nat} {out : List (List Nat)}
theorem sep2 {a b : Nat} {X Y : AObj} (ha : h a = none) (hb : h b = none) (hne : a ≠ b) : Sep h ((h.upd a (some X)).upd b (some Y)) ([(a, X), (b, Y)] ++ []) :=
  Sep.ins (L1 := [(a, X)]) (L2 := []) (Sep.ins (L1 := []) (L2 := []) (Sep.start h) ha) (by rw [Heap.upd_other _ (Ne.symm hne)]; exact hb)
theorem GO.drop (k : GO g h hp bi bl bn LS S fr out) : GO g h hp bi bl bn [] S fr out :=
  ⟨k.tj, k.lon, k.on, k.opn, k.grp, k.gout, k.gok, k.sep.sub (.cons_cons _ (.cons_cons _ (.cons_cons _ (List.sublist_append_right _ _))))⟩
theorem GO.sepG (k : GO g h hp bi bl bn LS S fr out) : Sep h hp S.LG :=
  k.sep.sub (.cons _ (.cons _ (.cons _ ((List.sublist_append_right _ _).trans (List.sublist_append_right _ _)))))
theorem GO.nil (k : GO g h hp bi bl bn LS S fr out) (hn : (pst S.st fr).length ≤ 0) : S.st = [] ∧ fr = none ∧ S.op = [] := by
  cases fr with
  | some c => simp [pst] at hn
  | none =>
    have e : S.st = [] := List.eq_nil_of_length_eq_zero (by simpa [pst] using hn)
    refine ⟨e, rfl, ?_⟩
    apply List.eq_nil_iff_forall_not_mem.2
    intro x hx
    obtain ⟨a, ha, _⟩ := k.tj.pre1 x hx
    rw [e] at ha
    cases ha
theorem GO.stl (k : GO g h hp bi bl bn LS S fr out) : (pst S.st fr).length ≤ g.names.length + 1 ∧ S.st.length ≤ g.names.length := by
  have h1 := k.tj.siz
  have h2 := k.cnt_le
  have h3 := k.tj.sub.length_le
  rw [List.length_map] at h3
  cases fr with
  | some c => simp only [pst, List.length_append, List.length_singleton]; omega
  | none => simp only [pst]; omega
theorem GO.top (k : GO g h hp bi bl bn LS S fr out) {pre : List (Nat × Nat)} {p j : Nat} (e : pst S.st fr = pre ++ [(p, j)]) : p < g.names.length := by
  by_cases h0 : g0 S.idx p = 0
  · have := k.new e h0
    exact (k.tj.fre p this.1).1
  · have := k.old e (fun h => h0 h.2)
    exact (k.tj.opm p (k.tj.path (by rw [this.2]; simp))).1
theorem GO.re (k : GO g h hp bi bl bn LS S fr out) (hS : Sep h hp' ((bi, .row (ints S.idx)) :: (bl, .row (ints S.low)) :: (bn, .row (bools S.on)) :: (LS' ++ (S.LO ++ S.LG)))) : GO g h hp' bi bl bn LS' S fr out :=
  ⟨k.tj, k.lon, k.on, k.opn, k.grp, k.gout, k.gok, hS⟩
theorem GO.withSt (k : GO g h hp bi bl bn LS S fr out) {st : List (Nat × Nat)} (e : S.st = st) : GO g h hp bi bl bn LS { S with low := S.low, st := st } fr out := by subst e; exact k
theorem GO.opl (k : GO g h hp bi bl bn LS S fr out) : S.op.length ≤ g.names.length ∧ (nI S.op).length = S.op.length := by
  have h1 := k.tj.siz
  have h2 := k.cnt_le
  exact ⟨by omega, nI_len _⟩
theorem GO.opr (k : GO g h hp bi bl bn LS S fr out) {p : Nat} (hp : p ∈ S.op) : ∃ bo ns, S.vo = .ms bo 0 1 (nI S.op).length ns.length ∧ (nI S.op).length ≤ ns.length ∧ ns.take (nI S.op).length = nI S.op ∧ S.LO = [(bo, .row (ints ns))] := by
  rcases k.opn with ⟨_, e, _⟩ | h
  · have : (nI S.op).length = 0 := by rw [e]; rfl
    rw [nI_len] at this
    rw [List.eq_nil_of_length_eq_zero this] at hp
    cases hp
  · exact h
theorem GO.on_clr (k : GO g h hp bi bl bn LS S fr out) {p : Nat} {A B : List Nat} (e : S.op = A ++ p :: B) : ∀ q, q < g.names.length → (clr S.on (p :: B)).getD q false = decide (q ∈ A) := by
  intro q hq
  rw [clr_get _ _ _ (fun x hx => by rw [k.lon]; exact (k.tj.opm x (by rw [e]; exact List.mem_append_right _ hx)).1), k.on q hq, e]
  have hnd := k.tj.nodup
  rw [e, List.nodup_append] at hnd
  by_cases hA : q ∈ A
  · have : q ∉ p :: B := fun hB => hnd.2.2 q hA q hB rfl
    simp [hA, this]
  · by_cases hB : q ∈ p :: B
    · simp [hA, hB]
    · simp [hA, hB]
theorem nI_head {A C : List Nat} {ns : List Int} (h : ns.take (nI (A ++ C)).length = nI (A ++ C)) : ns.take A.length = nI A := by
  have := congrArg (List.take A.length) h
  rw [List.take_take, nI_len, List.length_append, Nat.min_eq_left (by omega), nI, List.map_append, List.take_left' (by simp)] at this
  exact this
theorem notA {op A B : List Nat} {p : Nat} (hnd : op.Nodup) (e : op = A ++ p :: B) : p ∉ A := by
  rw [e, List.nodup_append] at hnd
  exact fun h => hnd.2.2 p h p (List.mem_cons_self ..) rfl
theorem stk_pop {X Y Z : Nat × AObj} {L : List (Nat × AObj)} {pre : List (Nat × Nat)} {p j : Nat} {rest : List AV} (hS : Sep h hp (X :: Y :: Z :: ([(bs, .row (stc (pre ++ [(p, j)]) ++ rest))] ++ L))) : Sep h hp (X :: Y :: Z :: ([(bs, .row (stc pre ++ (eVis (p, j) ++ rest)))] ++ L)) := by
  rwa [stc_snoc, List.append_assoc] at hS
theorem setne {l : List Int} {p q c : Nat} (hp : p < l.length) (h : g0 l q ≠ 0) : g0 (l.set p ((c + 1 : Nat) : Int)) q ≠ 0 := by
  rw [g0_set hp]
  split
  · omega
  · exact h
theorem GO.start (k : GO g h hp bi bl bn LS S none out) (hst : S.st = []) (hop : S.op = []) {i : Nat} (hi : i < g.names.length) (h0 : g0 S.idx i = 0)
    (hS : Sep h hp' ((bi, .row (ints S.idx)) :: (bl, .row (ints S.low)) :: (bn, .row (bools S.on)) :: ((bs, .row (eVis (i, 0))) :: (S.LO ++ S.LG)))) :
    GO g h hp' bi bl bn [(bs, .row (stc (pst [] (some i)) ++ []))] { S with st := [], op := [] } (some i) out := by
  have tj := k.tj
  rw [hst, hop] at tj
  refine ⟨tj.push0 hi h0, k.lon, fun p hp => ?_, ?_, k.grp, k.gout, k.gok, hS⟩
  · rw [← hop]; exact k.on p hp
  · rw [← hop]; exact k.opn
theorem GO.zero (hS : Sep h hp ((bi, .row (ints (List.replicate g.names.length 0))) :: (bl, .row (ints (List.replicate g.names.length 0))) :: (bn, .row (bools (List.replicate g.names.length false))) :: [])) :
    GO g h hp bi bl bn [] ⟨List.replicate g.names.length 0, List.replicate g.names.length 0, List.replicate g.names.length false, .sl .nil 1 [], [], [], .sl .nil 1 [], [], [], [], 0⟩ none [] :=
  ⟨TJ.start _ _, by simp, fun p hp => by simp [List.getD_eq_getElem?_getD, hp], .inl ⟨rfl, rfl, rfl⟩, .inl ⟨rfl, rfl, rfl⟩, rfl, by simp, hS⟩
end
end Go.AM.Tryd
end
section
set_option maxRecDepth 100000
set_option maxHeartbeats 4000000
set_option linter.unusedVariables false
set_option linter.unusedSimpArgs false
namespace Go.AM.Tryd
open Go Go.AM Go.AM.D
open Go.AM.Tarjan
theorem groups_ (g : Graph) (hok : okG g) (h : Heap) : AFn PR (.fn (.func 13) [] []) [.ip (eGraph g)] h (fun a h' => ∃ gs LG out idx low cnt, GrL a gs LG ∧ Sep h h' LG ∧ gs.map GR.l = out.map nI ∧ (∀ x ∈ gs, x.ok) ∧ TJ (adjG g) g.names.length idx low [] [] none cnt out ∧ ∀ q, q < g.names.length → g0 idx q ≠ 0) := by
  have hgn := hok.1
  have hgo := hok.2.1
  refine AFn_q Go.Proofs.Tryz.func13 rfl (by rfl) Go.Proofs.Tryz.ntmps13 rfl (by simp) ?_
  refine AW_x [(2, 0)] [] ?_
  refine ⟨1, 1, ?_⟩
  refine AW_seq ?_
  refine AW_make2 5 11 12 13 4 5 (.row (ints (List.replicate g.names.length 0))) (.row (ints (List.replicate g.names.length 0))) (fun b => .ms b 0 1 g.names.length g.names.length) (fun b => .ms b 0 1 g.names.length g.names.length) [.ip (eGraph g), .ip (eGraph g), .ip (List.drop 0 (eGraph g)), .sl .any 3 (g.names.map eTerm), .lit (.int .i64 ((g.names.length : Nat) : Int)), .junk, .ip (eGraph g), .ip (eGraph g), .ip (List.drop 0 (eGraph g)), .sl .any 3 (g.names.map eTerm), .lit (.int .i64 ((g.names.length : Nat) : Int)), .junk, .junk, .junk] [(0, .ip (eGraph g)), (2, .sl .nil 1 []), (3, .sl .nil 1 [])] rfl hmixed (by kernel_rfl) (by kernel_rfl) rfl rfl ⟨by kernel_rfl, by kernel_rfl⟩ rfl rfl rfl (fun hh => ⟨.inr ⟨[(0, .ip (eGraph g))], ⟨.inr ⟨by kernel_rfl, rfl⟩, trivial⟩, PO_move rfl rfl⟩, ⟨.inr ⟨[(18, .ip (eGraph g))], ⟨.inl ⟨0, by kernel_rfl, by kernel_rfl, rfl, rfl⟩, trivial⟩, PO_nilCheck_ip rfl rfl⟩, ⟨.inr ⟨[(19, .ip (eGraph g))], ⟨.inl ⟨1, by kernel_rfl, by kernel_rfl, rfl, rfl⟩, trivial⟩, PO_fieldAddr rfl f62_0 rfl⟩, ⟨.inr ⟨[(20, .ip (List.drop 0 (eGraph g)))], ⟨.inl ⟨2, by kernel_rfl, by kernel_rfl, rfl, rfl⟩, trivial⟩, PO_load rfl ty37 rfl rfl⟩, ⟨.inr ⟨[(21, .sl .any 3 (g.names.map eTerm))], ⟨.inl ⟨3, by kernel_rfl, by kernel_rfl, rfl, rfl⟩, trivial⟩, PO_lenM rfl un37 rfl⟩, ⟨.inl rfl, ⟨.inr ⟨[(0, .ip (eGraph g))], ⟨.inr ⟨by kernel_rfl, rfl⟩, trivial⟩, PO_move rfl rfl⟩, ⟨.inr ⟨[(24, .ip (eGraph g))], ⟨.inl ⟨6, by kernel_rfl, by kernel_rfl, rfl, rfl⟩, trivial⟩, PO_nilCheck_ip rfl rfl⟩, ⟨.inr ⟨[(25, .ip (eGraph g))], ⟨.inl ⟨7, by kernel_rfl, by kernel_rfl, rfl, rfl⟩, trivial⟩, PO_fieldAddr rfl f62_0 rfl⟩, ⟨.inr ⟨[(26, .ip (List.drop 0 (eGraph g)))], ⟨.inl ⟨8, by kernel_rfl, by kernel_rfl, rfl, rfl⟩, trivial⟩, PO_load rfl ty37 rfl rfl⟩, ⟨.inr ⟨[(27, .sl .any 3 (g.names.map eTerm))], ⟨.inl ⟨9, by kernel_rfl, by kernel_rfl, rfl, rfl⟩, trivial⟩, PO_lenM rfl un37 rfl⟩, ⟨.inl rfl, ⟨.inl rfl, ⟨.inl rfl, trivial⟩⟩⟩⟩⟩⟩⟩⟩⟩⟩⟩⟩⟩⟩) ⟨_, [(22, .lit (.int .i64 ((g.names.length : Nat) : Int)))], rfl, ⟨.inl ⟨4, by kernel_rfl, by kernel_rfl, rfl, rfl⟩, trivial⟩, fun hh => MO_mkn rfl un32 ty3 z3 by3 rfl rfl (by omega) (by omega)⟩ ⟨_, [(28, .lit (.int .i64 ((g.names.length : Nat) : Int)))], rfl, ⟨.inl ⟨10, by kernel_rfl, by kernel_rfl, rfl, rfl⟩, trivial⟩, fun hh => MO_mkn rfl un32 ty3 z3 by3 rfl rfl (by omega) (by omega)⟩ ⟨.inr ⟨by kernel_rfl, rfl⟩, .inr ⟨by kernel_rfl, rfl⟩, .inr ⟨by kernel_rfl, rfl⟩, trivial⟩ ?_
  intro bi bl hbi hbl hne
  refine AL_nil ?_
  have hS : Sep h ((h.upd bi (some (.row (ints (List.replicate g.names.length 0))))).upd bl (some (.row (ints (List.replicate g.names.length 0))))) ([(bi, .row (ints (List.replicate g.names.length 0))), (bl, .row (ints (List.replicate g.names.length 0)))] ++ []) := sep2 hbi hbl hne
  refine AW_x [] [] ?_
  refine ⟨F62_0, T37, L37, _, lm, ?_⟩
  refine AL_m rfl rfl rfl (MO_sMkB (L1 := [_, _]) rfl un80 ty4 z4 by4 rfl rfl (by omega) (by omega) hS) ?_
  rintro _ hp ⟨bn, rfl, hS⟩
  refine AL_x [] [] 6 ?_
  refine ⟨1, F62_0, T37, L37, _, lm, ?_⟩
  refine AW_it [] [] [(0, _), (2, _), (4, _), (5, _), (6, _), (40, _)] (fun (z_ : Nat × GSt × List (List Nat) × Heap) => match z_ with | (i, S, out, hp) => [(41, .lit (.int .i64 ((i : Nat) : Int))), (7, S.vo), (3, S.vg), (8, .lit (.int .i64 ((S.cnt : Nat) : Int)))]) (fun (z_ : Nat × GSt × List (List Nat) × Heap) => match z_ with | (i, S, out, hp) => hp) (fun (z_ : Nat × GSt × List (List Nat) × Heap) => match z_ with | (i, S, out, hp) => i ≤ g.names.length ∧ GO g h hp bi bl bn [] S none out ∧ S.st = [] ∧ S.op = [] ∧ ∀ q, q < i → g0 S.idx q ≠ 0) (fun (z_ : Nat × GSt × List (List Nat) × Heap) => match z_ with | (i, S, out, hp) => g.names.length - i) ((0, ⟨List.replicate g.names.length 0, List.replicate g.names.length 0, List.replicate g.names.length false, .sl .nil 1 [], [], [], .sl .nil 1 [], [], [], [], 0⟩, [], hp)) ⟨rfl, rfl, rfl, rfl, rfl, rfl, trivial⟩ ⟨rfl, rfl, rfl, rfl, trivial⟩ rfl (⟨by omega, .zero hS, rfl, rfl, fun q hq => by omega⟩) ?_
  rintro ⟨i, S, out, hp⟩ ⟨hIi, hk, hst0, hop0, hvis⟩
  have hS := hk.sep
  have hli := hk.tj.lidx
  refine brD (fun hc7 => ?_) (fun hc7 => ?_)
  · skip
    have hi : i < g.names.length := by omega
    refine AW_scope (l := 0) (fun _ => False) rfl ?_ (fun _ hF => hF.elim)
    refine AW_x [(10, 3)] [] ?_
    refine ⟨L32, _, ixj (by omega), T3, _, _, ⟨(hS.get 0 rfl), ldn (by omega)⟩, brD (fun hc9 => ?_) (fun hc9 => ?_)⟩
    · skip
      refine ⟨_, f1 (by first | omega | (simp_all <;> omega)), ?_⟩
      exact ⟨(i + 1, S, out, hp), ⟨by omega, hk, hst0, hop0, fun q hq => by
          by_cases e : q = i
          · rw [e]; exact hc9
          · exact hvis q (by omega)⟩, by simp only []; omega, ⟨rfl, ⟨rfl, rfl, rfl, rfl, rfl, rfl, rfl, rfl, rfl, rfl, trivial⟩, rfl, rfl, rfl⟩⟩
    · skip
      have hc9 : g0 S.idx i = 0 := Decidable.not_not.1 hc9
      refine ⟨(.agg (eVis (i, 0))), PO_build rfl z96 pl96 rfl rfl, ?_⟩
      refine AL_m rfl rfl rfl (MO_sLit (L1 := [_, _, _]) (rs := eVis (i, 0)) rfl un97 ty96 z96 rfl rfl rfl (by decide) rfl (by decide) hS) ?_
      rintro _ hp ⟨bs, rfl, hS⟩
      refine AL_x [] [] 3 ?_
      refine AW_it [(13, 0), (26, 0), (31, 5)] [(12, 3), (25, 3), (27, 3), (30, 2)] [(41, _), (0, _), (2, _), (4, _), (5, _), (6, _), (40, _)] (fun (z_ : GSt × Option Nat × List (List Nat) × Nat × Nat × List AV × Heap) => match z_ with | (S1, fr, out1, bs, cap, rest, hp) => [(10, .ms bs 0 2 ((pst S1.st fr).length) cap), (7, S1.vo), (3, S1.vg), (8, .lit (.int .i64 ((S1.cnt : Nat) : Int)))]) (fun (z_ : GSt × Option Nat × List (List Nat) × Nat × Nat × List AV × Heap) => match z_ with | (S1, fr, out1, bs, cap, rest, hp) => hp) (fun (z_ : GSt × Option Nat × List (List Nat) × Nat × Nat × List AV × Heap) => match z_ with | (S1, fr, out1, bs, cap, rest, hp) => GO g h hp bi bl bn [(bs, .row (stc (pst S1.st fr) ++ rest))] S1 fr out1 ∧ (stc (pst S1.st fr) ++ rest).length = cap * 2 ∧ (∀ q, q < i → g0 S1.idx q ≠ 0) ∧ (g0 S1.idx i ≠ 0 ∨ fr = some i)) (fun (z_ : GSt × Option Nat × List (List Nat) × Nat × Nat × List AV × Heap) => match z_ with | (S1, fr, out1, bs, cap, rest, hp) => 3 * (g.names.length - S1.cnt) + S1.st.length - frN fr) (({ S with st := [], op := [] }, some i, out, bs, 1, [], hp)) ⟨rfl, rfl, rfl, rfl, rfl, rfl, rfl, trivial⟩ ⟨rfl, rfl, rfl, rfl, trivial⟩ rfl (⟨hk.start hst0 hop0 hi hc9 hS, rfl, hvis, .inr rfl⟩) ?_
      rintro ⟨S1, fr, out1, bs, cap, rest, hp⟩ ⟨hk1, hcap, hvis1, hfi⟩
      have hS := hk1.sep
      have hli := hk1.tj.lidx
      have hll := hk1.tj.llow
      have hlo := hk1.lon
      have hcm := hk1.cnt_le
      refine ⟨L97, brD (fun hc11 => ?_) (fun hc11 => ?_)⟩
      · skip
        obtain ⟨pre, ⟨p, j⟩, hst⟩ := snoc_of (l := pst S1.st fr) (by omega)
        have hpl : (pst S1.st fr).length = pre.length + 1 := by rw [hst]; simp
        have hpl1 : (pre ++ [(p, 0)]).length = pre.length + 1 := by simp
        rw [hst] at hS hcap
        have hpm1 : p < g.names.length := hk1.top hst
        have hsl := hk1.stl
        refine ⟨L97, (.lit (.int .i64 ((pre.length : Nat) : Int))), PO_fit rfl rfl rfl rfl trivial (by rw [i64w (by omega) (by omega)]; omega), L97, _, ixs (by first | omega | simpa using (by omega)), ?_⟩
        refine AW_join (α := GSt × Nat × Heap) (fun (z_ : GSt × Nat × Heap) => match z_ with | (S2, j2, hp) => [(7, S2.vo), (3, S2.vg), (8, .lit (.int .i64 ((S2.cnt : Nat) : Int))), (10, .ms bs 0 2 ((pst S1.st fr).length) cap), (41, .lit (.int .i64 ((i : Nat) : Int))), (0, .ip (eGraph g)), (2, .sl .nil 1 []), (4, .ms bi 0 1 g.names.length g.names.length), (5, .ms bl 0 1 g.names.length g.names.length), (6, .ms bn 0 1 g.names.length g.names.length), (40, .lit (.int .i64 (g.names.length : Int))), (11, .ptr bs (pre.length * 2))]) (fun (z_ : GSt × Nat × Heap) => match z_ with | (S2, j2, hp) => hp) (fun (z_ : GSt × Nat × Heap) => match z_ with | (S2, j2, hp) => GO g h hp bi bl bn [(bs, .row (stc (pre ++ [(p, j2)]) ++ rest))] S2 none out1 ∧ S2.st = pre ++ [(p, j2)] ∧ (∀ q, q < i → g0 S2.idx q ≠ 0) ∧ g0 S2.idx i ≠ 0 ∧ 3 * (g.names.length - S2.cnt) + S2.st.length ≤ 3 * (g.names.length - S1.cnt) + S1.st.length - frN fr) ?_ ?_
        · skip
          refine AW_x [] [] ?_
          refine ⟨F96_1, T3, _, _, ⟨hS.get 3 rfl, stc_n⟩, _, fun hg65 => ⟨F96_0, T3, _, _, ⟨hS.get 3 rfl, stc_p⟩, L32, _, ixj (by omega), T3, _, _, ⟨(hS.get 0 rfl), ldn (by omega)⟩, rfl⟩, fun hc13 => ?_, fun hc13 => ?_⟩
          · skip
            simp only [Bool.and_eq_true, decide_eq_true_eq] at hc13
            have hfr := hk1.new hst hc13.2
            have hroom := hk1.room hfr.1
            have hopl := hk1.opl
            refine ⟨_, f1 (by first | omega | (simp_all <;> omega)), ⟨hmixed, by kernel_rfl⟩, F96_0, T3, _, _, ⟨hS.get 3 rfl, stc_p⟩, F96_0, T3, _, _, ⟨hS.get 3 rfl, stc_p⟩, F96_0, T3, _, _, ⟨hS.get 3 rfl, stc_p⟩, L32, _, ixj (by omega), L32, _, ixj (by omega), L80, _, ixj (by first | omega | simpa using (by omega)), ?_⟩
            refine ⟨_, MO_sN (i := 0) rfl ty3 rfl rfl hS rfl (by omega), ?_⟩
            rintro _ hp ⟨-, hS⟩
            refine ⟨_, MO_sN (i := 1) rfl ty3 rfl rfl hS rfl (by omega), ?_⟩
            rintro _ hp ⟨-, hS⟩
            refine ⟨_, MO_sB (i := 2) rfl ty4 rfl rfl hS rfl (by omega), ?_⟩
            rintro _ hp ⟨-, hS⟩
            refine ⟨F96_0, T3, _, _, ⟨hS.get 3 rfl, stc_p⟩, (.sl .full 1 ([((p : Nat) : Int)].map eI64)), PO_buildSlice (n := 1) (S := 1) (rs := [.lit (.int .i64 ((p : Nat) : Int))] ++ []) rfl un32 ty3 z3 rfl rfl rfl (by decide) rfl (by decide), ?_⟩
            refine AL_m rfl rfl rfl (MO_appO (L1 := [_, _, _, _]) (L2 := S1.LG) rfl un32 un32 ty3 z3 by3 rfl rfl hk1.opn hS (by omega) (by omega)) ?_
            rintro vo2 hp ⟨LO2, hO2, hS⟩
            refine AL_x [] [] 7 ?_
            exact ⟨({ S1 with idx := S1.idx.set p ((S1.cnt + 1 : Nat) : Int), low := S1.low.set p ((S1.cnt + 1 : Nat) : Int), on := S1.on.set p true, vo := vo2, op := S1.op ++ [p], LO := LO2, st := pre ++ [(p, 0)], cnt := S1.cnt + 1 }, 0, hp), ⟨⟨hfr.2.1 ▸ (hfr.1 ▸ hk1.tj).visit, by simp only [List.length_set]; exact hk1.lon, fun q hq => by
                rw [bset (by omega), hk1.on q hq]
                by_cases e : p = q
                · subst e; simp
                · simp [e, Ne.symm e], by simp only [nI, List.map_append]; exact hO2, hk1.grp, hk1.gout, hk1.gok, hfr.2.2 ▸ hS⟩, rfl, fun q hq => setne (by omega) (hvis1 q hq), (hfi.elim (fun e => setne (by omega) e) fun e => by
                have : p = i := by rw [hfr.1] at e; injection e
                rw [← this, g0_set (by omega), if_pos rfl]; omega), by
                rw [hfr.1, ← hfr.2.1]; simp only [List.length_append, List.length_singleton, frN]; omega⟩, ⟨rfl, ⟨rfl, rfl, rfl, rfl, rfl, rfl, rfl, rfl, rfl, rfl, rfl, rfl, trivial⟩, rfl, rfl, rfl⟩⟩
          · skip
            have hfr := hk1.old hst (fun e => by rw [e.1, show S1.idx.getD p 0 = 0 from e.2] at hc13; simp at hc13)
            exact ⟨(S1, j, hp), ⟨hfr.1 ▸ hk1.re hS, hfr.2, hvis1, hfi.resolve_right (by rw [hfr.1]; nofun), by rw [hfr.1]; simp [frN]⟩, ⟨rfl, ⟨rfl, rfl, rfl, rfl, rfl, rfl, rfl, rfl, rfl, rfl, rfl, rfl, trivial⟩, rfl, rfl, rfl⟩⟩
        · rintro ⟨S2, j2, hp⟩ ⟨hk2, hst2, hvis2, hfi2, hmu⟩
          have hS := hk2.sep
          have hli2 := hk2.tj.lidx
          have hll2 := hk2.tj.llow
          have hlo2 := hk2.lon
          have hop2m := hk2.tj.path (a := p) (by rw [hst2]; simp)
          have hop2 := hk2.tj.opm p hop2m
          have hpm := hop2.1
          have hj2 := hk2.tj.nxt (p, j2) (by rw [hst2]; simp)
          simp only [] at hj2
          obtain ⟨es, hes⟩ : ∃ es, g.out[p]? = some es := ⟨_, List.getElem?_eq_getElem (by rw [hgo]; exact hpm)⟩
          have hel := (hok.2.2 es (List.mem_of_getElem? hes)).1
          have helt := (hok.2.2 es (List.mem_of_getElem? hes)).2
          have hal := adj_len hes
          have hcap3 : ∀ j : Nat, (stc (pre ++ [(p, j)]) ++ rest).length = cap * 2 := fun j => by rw [← hcap]; simp [stc_len]
          have hcm2 := hk2.cnt_le
          have hpc : pre.length + 1 ≤ cap := by have := hcap; simp [stc_len] at this; omega
          refine AW_x [(26, 0), (31, 5)] [(25, 3), (27, 3), (30, 2)] ?_
          refine AW_it [] [(18, 17), (22, 3)] [(7, _), (3, _), (8, _), (10, _), (41, _), (0, _), (2, _), (4, _), (5, _), (6, _), (40, _), (11, _)] (fun (z_ : Nat × List Int × Heap) => match z_ with | (j3, low, hp) => []) (fun (z_ : Nat × List Int × Heap) => match z_ with | (j3, low, hp) => hp) (fun (z_ : Nat × List Int × Heap) => match z_ with | (j3, low, hp) => j3 ≤ (adjG g p).length ∧ GO g h hp bi bl bn [(bs, .row (stc (pre ++ [(p, j3)]) ++ rest))] { S2 with low := low, st := pre ++ [(p, j3)] } none out1) (fun (z_ : Nat × List Int × Heap) => match z_ with | (j3, low, hp) => (adjG g p).length - j3) ((j2, S2.low, hp)) ⟨rfl, rfl, rfl, rfl, rfl, rfl, rfl, rfl, rfl, rfl, rfl, rfl, trivial⟩ trivial rfl (⟨hj2, hk2.withSt hst2⟩) ?_
          rintro ⟨j3, low, hp⟩ ⟨hj3, hk3⟩
          have hS : Sep h hp ((bi, .row (ints S2.idx)) :: (bl, .row (ints low)) :: (bn, .row (bools S2.on)) :: ([(bs, .row (stc (pre ++ [(p, j3)]) ++ rest))] ++ (S2.LO ++ S2.LG))) := hk3.sep
          have hll3 : low.length = g.names.length := hk3.tj.llow
          refine ⟨⟨hmixed, by kernel_rfl⟩, F96_1, T3, _, _, ⟨hS.get 3 rfl, stc_n⟩, F62_2, T60, F96_0, T3, _, _, ⟨hS.get 3 rfl, stc_p⟩, L60, _, ⟨rfl, (by first | decide | omega), (mget hes)⟩, T81, L81, _, lm, brD (fun hc17 => ?_) (fun hc17 => ?_)⟩
          · skip
            obtain ⟨x, hrx, hdx, hmx⟩ := drop_at (l := es) (i := j3) (by omega)
            have hto := helt x hmx
            obtain ⟨y, hy⟩ : ∃ y : Nat, x.to = ((y : Nat) : Int) := ⟨x.to.toNat, by omega⟩
            have hym : y < g.names.length := by omega
            have hadj : (adjG g p)[j3]? = some y := by rw [adj_get hes hrx, hy]; rfl
            have hal3 := (List.getElem?_eq_some_iff.1 hadj).1
            refine ⟨⟨hmixed, by kernel_rfl⟩, F62_2, T60, F96_0, T3, _, _, ⟨hS.get 3 rfl, stc_p⟩, L60, _, ⟨rfl, (by first | decide | omega), (mget hes)⟩, T81, F96_1, T3, _, _, ⟨hS.get 3 rfl, stc_n⟩, L81, _, ⟨rfl, (by first | decide | omega), (mget hrx)⟩, F83_0, T3, (.lit (.int .i64 ((y : Nat) : Int))), PO_eqI (PO_assign rfl rfl) hy, F96_1, T3, _, _, ⟨hS.get 3 rfl, stc_n⟩, _, f1 (by first | omega | (simp_all <;> omega)), F96_1, ?_⟩
            refine AL_u rfl rfl (MO_sS (i := 3) rfl ty3 rfl rfl hS rfl rfl rfl (show pre.length * 2 + 1 + 1 ≤ _ by rw [hcap3 j3]; omega) stc_set) ?_
            rintro _ hp ⟨-, hS⟩
            refine AL_nil ?_
            refine ⟨L32, _, ixj (by omega), T3, _, _, ⟨(hS.get 0 rfl), ldn (by omega)⟩, brD (fun hc20 => ?_) (fun hc20 => ?_)⟩
            · skip
              refine ⟨(.agg (eVis (y, 0))), PO_build rfl z96 pl96 rfl rfl, (.sl .full 2 [eVis (y, 0)]), PO_buildSlice (n := 1) (S := 2) (rs := eVis (y, 0)) rfl un97 ty96 z96 rfl rfl rfl (by decide) rfl (by decide), ?_⟩
              refine AL_m rfl rfl rfl (MO_sV (i := 3) rfl un97 un97 ty96 z96 by96 rfl (by rw [hpl]; simp) rfl hS rfl (hcap3 (j3 + 1)) (by simp only [List.length_append, List.length_singleton]; omega) (by simp only [List.length_append, List.length_singleton]; omega)) ?_
              rintro _ hp ⟨b2, cap2, rest2, rfl, hcap2, hS⟩
              refine AL_x [] [] 5 ?_
              exact ⟨({ S2 with low := low, st := pre ++ [(p, j3 + 1)] }, some y, out1, b2, cap2, rest2, hp), ⟨⟨hk3.tj.edge0 hadj (fun hm => (hk3.tj.opm y hm).2 hc20) (.inr ⟨rfl, hym, hc20⟩), hk3.lon, hk3.on, hk3.opn, hk3.grp, hk3.gout, hk3.gok, hS⟩, hcap2, hvis2, .inl hfi2⟩, by
                simp only [List.length_append, List.length_singleton, frN] at hmu ⊢
                rw [hst2] at hmu; simp only [List.length_append, List.length_singleton] at hmu
                omega, ⟨rfl, ⟨rfl, rfl, rfl, rfl, rfl, rfl, rfl, rfl, rfl, rfl, rfl, trivial⟩, rfl, rfl, rfl⟩⟩
            · skip
              refine ⟨L80, _, ixj (by first | omega | simpa using (by omega)), (.lit (.bool (S2.on.getD y false))), PO_ldb rfl ty4 rfl (hS.get 2 rfl) (by omega), fun hc22 => ?_, fun hc22 => ?_⟩
              · skip
                have hyo : y ∈ S2.op := by have := hk3.on y hym; rw [show S2.on.getD y false = true from hc22] at this; simpa using this.symm
                refine ⟨⟨hmixed, by kernel_rfl⟩, F96_0, T3, _, _, ⟨hS.get 3 rfl, stc_p⟩, F96_0, T3, _, _, ⟨hS.get 3 rfl, stc_p⟩, L32, _, ixj (by omega), T3, _, _, ⟨(hS.get 1 rfl), ldn (by omega)⟩, L32, _, ixj (by omega), T3, _, _, ⟨(hS.get 0 rfl), ldn (by omega)⟩, (.lit (.int .i64 (min (low.getD p 0) (S2.idx.getD y 0)))), PO_eqI (PO_min rfl rfl rfl) (by rw [Int.min_def]; split <;> split <;> omega), L32, _, ixj (by omega), ?_⟩
                refine AL_u rfl rfl (MO_sN (i := 1) rfl ty3 rfl rfl hS rfl (by omega)) ?_
                rintro _ hp ⟨-, hS⟩
                refine AL_nil ?_
                exact ⟨(j3 + 1, low.set p (min (low.getD p 0) (S2.idx.getD y 0)), hp), ⟨by omega, ⟨hk3.tj.edge1 hadj hyo, hk3.lon, hk3.on, hk3.opn, hk3.grp, hk3.gout, hk3.gok, hS⟩⟩, by simp only []; omega, ⟨rfl, ⟨rfl, rfl, rfl, rfl, rfl, rfl, rfl, rfl, rfl, rfl, rfl, rfl, trivial⟩, rfl, rfl, rfl⟩⟩
              · skip
                have hyo : y ∉ S2.op := by have := hk3.on y hym; rw [show S2.on.getD y false = false from hc22] at this; simpa using this.symm
                exact ⟨(j3 + 1, low, hp), ⟨by omega, ⟨hk3.tj.edge0 hadj hyo (.inl ⟨rfl, hc20⟩), hk3.lon, hk3.on, hk3.opn, hk3.grp, hk3.gout, hk3.gok, hS⟩⟩, by simp only []; omega, ⟨rfl, ⟨rfl, rfl, rfl, rfl, rfl, rfl, rfl, rfl, rfl, rfl, rfl, rfl, trivial⟩, rfl, rfl, rfl⟩⟩
          · skip
            have hj3 : (adjG g p).length ≤ j3 := by omega
            refine ⟨F96_0, T3, _, _, ⟨hS.get 3 rfl, stc_p⟩, L97, (.lit (.int .i64 ((pre.length : Nat) : Int))), PO_fit rfl rfl rfl rfl trivial (by rw [i64w (by omega) (by omega)]; omega), (.ms bs 0 2 pre.length cap), PO_headO rfl un97 ty96 rfl rfl (by omega), ?_⟩
            refine AW_join (α := Heap) (fun (hp : Heap) => [(7, S2.vo), (3, S2.vg), (8, .lit (.int .i64 ((S2.cnt : Nat) : Int))), (10, .ms bs 0 2 pre.length cap), (41, .lit (.int .i64 ((i : Nat) : Int))), (0, .ip (eGraph g)), (2, .sl .nil 1 []), (4, .ms bi 0 1 g.names.length g.names.length), (5, .ms bl 0 1 g.names.length g.names.length), (6, .ms bn 0 1 g.names.length g.names.length), (40, .lit (.int .i64 (g.names.length : Int))), (13, .lit (.int .i64 ((p : Nat) : Int)))]) (fun (hp : Heap) => hp) (fun (hp : Heap) => Sep h hp ((bi, .row (ints S2.idx)) :: (bl, .row (ints (lowUp low p pre))) :: (bn, .row (bools S2.on)) :: ([(bs, .row (stc (pre ++ [(p, j3)]) ++ rest))] ++ (S2.LO ++ S2.LG)))) ?_ ?_
            · skip
              refine AW_x [] [(27, 3)] ?_
              refine ⟨L97, brD (fun hc26 => ?_) (fun hc26 => ?_)⟩
              · skip
                obtain ⟨pre2, ⟨u, ju⟩, hpre⟩ := snoc_of (l := pre) (by omega)
                have hpl2 : pre.length = pre2.length + 1 := by rw [hpre]; simp
                have hum : u < g.names.length := (hk3.tj.opm u (hk3.tj.path (by simp [hpre]))).1
                have hrow27 : loaded (.int .i64) 1 ((stc (pre ++ [(p, j3)]) ++ rest).drop (pre2.length * 2 + 0)) = some (.lit (.int .i64 ((u : Nat) : Int))) := by rw [stc_snoc, List.append_assoc, hpre]; exact stc_p
                refine ⟨L97, (.lit (.int .i64 ((pre2.length : Nat) : Int))), PO_fit rfl rfl rfl rfl trivial (by rw [i64w (by omega) (by omega)]; omega), L97, _, ixs (by first | omega | simpa using (by omega)), F96_0, T3, _, _, ⟨hS.get 3 rfl, hrow27⟩, ⟨hmixed, by kernel_rfl⟩, L32, _, ixj (by omega), T3, _, _, ⟨(hS.get 1 rfl), ldn (by omega)⟩, L32, _, ixj (by omega), T3, _, _, ⟨(hS.get 1 rfl), ldn (by omega)⟩, (.lit (.int .i64 (min (low.getD u 0) (low.getD p 0)))), PO_eqI (PO_min rfl rfl rfl) (by rw [Int.min_def]; split <;> split <;> omega), L32, _, ixj (by omega), ?_⟩
                refine AL_u rfl rfl (MO_sN (i := 1) rfl ty3 rfl rfl hS rfl (by omega)) ?_
                rintro _ hp ⟨-, hS⟩
                refine AL_nil ?_
                exact ⟨hp, by rw [show lowUp low p pre = low.set u (min (low.getD u 0) (low.getD p 0)) from by rw [lowUp, hpre]; simp [g0]]; exact hS, ⟨rfl, ⟨rfl, rfl, rfl, rfl, rfl, rfl, rfl, rfl, rfl, rfl, rfl, rfl, trivial⟩, rfl, rfl, rfl⟩⟩
              · skip
                have hpre0 : pre = [] := List.eq_nil_of_length_eq_zero (by omega)
                exact ⟨hp, by rw [show lowUp low p pre = low from by rw [hpre0]; rfl]; exact hS, ⟨rfl, ⟨rfl, rfl, rfl, rfl, rfl, rfl, rfl, rfl, rfl, rfl, rfl, rfl, trivial⟩, rfl, rfl, rfl⟩⟩
            · rintro hp hS
              have hlt := lowUp_top hk3.tj
              have hlul := lowUp_len low p pre
              refine AW_x [(31, 5)] [(30, 2)] ?_
              refine ⟨⟨hmixed, by kernel_rfl⟩, L32, _, ixj (by omega), T3, _, _, ⟨(hS.get 1 rfl), ldn (by omega)⟩, L32, _, ixj (by omega), T3, _, _, ⟨(hS.get 0 rfl), ldn (by omega)⟩, brD (fun hc29 => ?_) (fun hc29 => ?_)⟩
              · skip
                have hlowp : g0 low p = g0 S2.idx p := hlt.symm.trans hc29
                obtain ⟨A, B, hAB⟩ := List.append_of_mem hop2m
                have hpA : p ∉ A := notA hk2.tj.nodup hAB
                obtain ⟨bo, ns, hvo, hnl, hnt, hLO⟩ := hk2.opr hop2m
                rw [hLO] at hS
                have hopl := hk2.opl
                have hABl : S2.op.length = A.length + (B.length + 1) := by rw [hAB]; simp
                have hnl2 : S2.op.length ≤ ns.length := by rw [← nI_len]; exact hnl
                have hol := hk2.out_len
                have hos := hk2.tj.siz
                refine ⟨(.lit (.int .i64 ((A.length : Nat) : Int))), PO_callH (vs := [.ms bo 0 1 (nI S2.op).length ns.length, .lit (.int .i64 ((p : Nat) : Int))]) rfl rfl (by rw [← hvo]; rfl) ((index39_ bo 0 _ (nI S2.op) p hp (PartI_of (A := []) (hS.get 4 rfl) hnt) (by rw [nI_len]; omega)).mono fun a h' e => ⟨by rw [e.1, hAB, ixO_at p A B 0 hpA, Int.zero_add], e.2⟩), (.ms bo A.length 1 ((nI (p :: B)).length) (ns.length - A.length)), PO_tailO rfl un32 ty3 (congrArg some hvo) rfl (by rw [nI_len, nI_len, hAB, List.length_append]) (by rw [nI_len]; simp) hnl, ?_⟩
                refine AL_m rfl rfl rfl (MO_call rfl rfl rfl (clone40_ bo A.length _ (nI (p :: B)) hp (PartI_of (hS.get 4 rfl) (hAB ▸ hnt)) (by simp [nI]) (by rw [nI_len, List.length_cons]; omega))) ?_
                rintro _ _ ⟨bc, nsc, hbc, rfl, hcl1, hcl2, rfl⟩
                have hS := Sep.ins (L1 := [_, _, _, _, _]) (o := .row (ints nsc)) hS hbc
                revert hS
                generalize hp.upd bc (some (.row (ints nsc))) = hp
                intro hS
                refine AL_x [] [] 5 ?_
                refine ⟨(.sl .full 1 [[(GR.mk bc (nI (p :: B)) nsc).cell]]), PO_buildSlice (n := 1) (S := 1) (rs := [(GR.mk bc (nI (p :: B)) nsc).cell]) rfl un28 ty32 z32 rfl rfl rfl (by decide) rfl (by decide), ?_⟩
                refine AL_m rfl rfl rfl (MO_appG (L1 := [_, _, _, _, _]) rfl un28 un28 ty32 z32 by32 rfl rfl hk2.grp hS (by omega) (by omega)) ?_
                rintro vg2 hp ⟨LG2, hG2, hS⟩
                refine AL_x [] [] 7 ?_
                refine ⟨(.ms bo A.length 1 ((p :: B).length) (ns.length - A.length)), PO_tailO rfl un32 ty3 (congrArg some hvo) rfl (by rw [nI_len, hAB, List.length_append]) (by simp) hnl, L32, ?_⟩
                refine AW_it [] [(34, 0), (34, 1)] [(7, _), (3, _), (8, _), (10, _), (41, _), (0, _), (2, _), (4, _), (5, _), (6, _), (40, _), (15, _), (230, _), (231, _)] (fun (z_ : Nat × Heap) => match z_ with | (k, hp) => [(232, .lit (.int .i64 ((k : Nat) : Int)))]) (fun (z_ : Nat × Heap) => match z_ with | (k, hp) => hp) (fun (z_ : Nat × Heap) => match z_ with | (k, hp) => k ≤ (p :: B).length ∧ Sep h hp ((bi, .row (ints S2.idx)) :: (bl, .row (ints (lowUp low p pre))) :: (bn, .row (bools (clr S2.on ((p :: B).take k)))) :: ([(bs, .row (stc (pre ++ [(p, j3)]) ++ rest))] ++ ([(bo, .row (ints ns))] ++ LG2)))) (fun (z_ : Nat × Heap) => match z_ with | (k, hp) => (p :: B).length - k) ((0, hp)) ⟨rfl, rfl, rfl, rfl, rfl, rfl, rfl, rfl, rfl, rfl, rfl, rfl, rfl, rfl, trivial⟩ ⟨rfl, trivial⟩ rfl (⟨by omega, hS⟩) ?_
                rintro ⟨k, hp⟩ ⟨hIk, hS⟩
                refine brD (fun hc33 => ?_) (fun hc33 => ?_)
                · skip
                  obtain ⟨z, hz, -, hzm⟩ := drop_at (l := p :: B) (i := k) (by omega)
                  have hzo := (hk2.tj.opm z (by rw [hAB]; exact List.mem_append_right _ hzm)).1
                  refine ⟨(.ptr bo (A.length + k)), PO_ixo rfl un32 ty3 rfl rfl (by omega), (.lit (.int .i64 ((z : Nat) : Int))), PO_ldo rfl ty3 rfl (PartI_of (C := p :: B) (hS.get 4 rfl) (hAB ▸ hnt)) (nI_get hz), L80, _, ixj (by first | omega | simpa using (by omega)), ?_⟩
                  refine AL_u rfl rfl (MO_sB (i := 2) rfl ty4 rfl rfl hS rfl (by rw [clr_len]; omega)) ?_
                  rintro _ hp ⟨-, hS⟩
                  refine AL_nil ?_
                  refine ⟨_, f1 (by first | omega | (simp_all <;> omega)), ?_⟩
                  exact ⟨(k + 1, hp), ⟨by omega, by rw [List.take_add_one, hz, Option.toList_some, clr_snoc]; exact hS⟩, by simp only []; omega, ⟨rfl, ⟨rfl, rfl, rfl, rfl, rfl, rfl, rfl, rfl, rfl, rfl, rfl, rfl, rfl, rfl, rfl, trivial⟩, rfl, rfl, rfl⟩⟩
                · skip
                  rw [List.take_of_length_le (by omega)] at hS
                  have hon3 := hk2.on_clr hAB
                  have hnA : ns.take (nI A).length = nI A := by rw [nI_len]; exact nI_head (hAB ▸ hnt)
                  have hgok2 : ∀ x ∈ S2.gs ++ [GR.mk bc (nI (p :: B)) nsc], x.ok := fun x hx => by
                      rcases List.mem_append.1 hx with hx | hx
                      · exact hk2.gok x hx
                      · rw [List.mem_singleton.1 hx]; exact ⟨hcl1, hcl2⟩
                  refine ⟨(.ms bo 0 1 A.length ns.length), PO_headO rfl un32 ty3 (congrArg some hvo) rfl (by rw [nI_len, hAB, List.length_append] at hnl; omega), ?_⟩
                  exact ⟨({ S2 with low := lowUp low p pre, on := clr S2.on (p :: B), vo := .ms bo 0 1 A.length ns.length, op := A, LO := [(bo, .row (ints ns))], vg := vg2, gs := S2.gs ++ [⟨bc, nI (p :: B), nsc⟩], LG := LG2, st := pre }, none, out1 ++ [p :: B], bs, cap, eVis (p, j3) ++ rest, hp), ⟨⟨hk3.tj.pop0 hj3 hlowp hAB, (clr_len _ _).trans hk3.lon, hon3, .inr ⟨bo, ns, by rw [nI_len], show (nI A).length ≤ ns.length by rw [nI_len]; omega, hnA, rfl⟩, hG2, by simp only [List.map_append, hk3.gout]; rfl, hgok2, stk_pop hS⟩, by rw [← hcap3 j3, stc_snoc, List.append_assoc]; rfl, hvis2, .inl hfi2⟩, by
                    rw [hst2] at hmu; simp only [List.length_append, List.length_singleton, frN] at hmu ⊢
                    omega, ⟨rfl, ⟨rfl, rfl, rfl, rfl, rfl, rfl, rfl, rfl, rfl, rfl, rfl, trivial⟩, rfl, rfl, rfl⟩⟩
              · skip
                have hlowp : g0 low p ≠ g0 S2.idx p := fun e => hc29 (hlt.trans e)
                exact ⟨({ S2 with low := lowUp low p pre, st := pre }, none, out1, bs, cap, eVis (p, j3) ++ rest, hp), ⟨⟨hk3.tj.pop1 hj3 hlowp, hk3.lon, hk3.on, hk3.opn, hk3.grp, hk3.gout, hk3.gok, stk_pop hS⟩, by rw [← hcap3 j3, stc_snoc, List.append_assoc]; rfl, hvis2, .inl hfi2⟩, by
                  rw [hst2] at hmu; simp only [List.length_append, List.length_singleton, frN] at hmu ⊢
                  omega, ⟨rfl, ⟨rfl, rfl, rfl, rfl, rfl, rfl, rfl, rfl, rfl, rfl, rfl, trivial⟩, rfl, rfl, rfl⟩⟩
      · skip
        have hnil := hk1.nil (by omega)
        refine ⟨_, f1 (by first | omega | (simp_all <;> omega)), ?_⟩
        exact ⟨(i + 1, S1, out1, hp), ⟨by omega, hnil.2.1 ▸ hk1.drop, hnil.1, hnil.2.2, fun q hq => by
            by_cases e : q = i
            · rw [e]; exact hfi.resolve_right (by rw [hnil.2.1]; nofun)
            · exact hvis1 q (by omega)⟩, by simp only []; omega, ⟨rfl, ⟨rfl, rfl, rfl, rfl, rfl, rfl, rfl, rfl, rfl, rfl, trivial⟩, rfl, rfl, rfl⟩⟩
  · skip
    have hie : i = g.names.length := by omega
    refine AW_ret ?_
    exact ret_R (.inl rfl) rfl ⟨S.gs, S.LG, out, S.idx, S.low, S.cnt, hk.grp, hk.sepG, hk.gout, hk.gok, by have := hk.tj; rwa [hst0, hop0] at this, fun q hq => hvis q (by omega)⟩
end Go.AM.Tryd
end
section
set_option maxRecDepth 100000
set_option linter.unusedVariables false
set_option linter.unusedSimpArgs false
namespace Go.AM
open Go.RowKit
section
variable {P : Program} {ρ : Option Nat} {Q : Exit → AS → Prop} {σ : AS} {o : Oper} {ops : Array Oper} {l : List Oper} {n d : Nat} {tm : List (Nat × AV)} {h h0 : Heap} {ms : List Nat}
theorem AFn_qc {f : Nat} {fn : Func} {c : Code} {args cap : List AV} {h : Heap} {R : AV → Heap → Prop} (hf : P.funcs[f]? = some fn) (hb : fn.body = some c) (hname : (fn.name == "runtime.NumGoroutine") = false) (hn : fn.ntmps = n) (ht : argTm 0 ([] ++ args ++ cap) = tm) (hle : Nat.ble ([] ++ args ++ cap).length n = true)
    (hw : AW P none c (retQ fn h R) ⟨n, tm, h, [], h⟩) : AFn P (.fn (.func f) [] cap) args h R := by
  refine AFn_of hf hb hname (by rw [hn]; exact Nat.le_of_ble_eq_true hle) ?_
  rw [hn, ht]; exact hw
theorem Sep.del {hp : Heap} {x : Nat × AObj} {L : List (Nat × AObj)} (hs : Sep h hp (x :: L)) : Sep h (hp.upd x.1 none) L := by
  obtain ⟨h1, h2, h3⟩ := hs
  rw [List.map_cons, List.nodup_cons] at h1
  refine ⟨h1.2, fun p hp' => ?_, ?_⟩
  · have hne : p.1 ≠ x.1 := fun e => h1.1 (by rw [← e]; exact List.mem_map_of_mem hp')
    rw [Heap.upd_other _ hne]
    exact h2 p (List.mem_cons_of_mem _ hp')
  · intro b o e
    have hb : b ≠ x.1 := fun e' => by
      have := (h2 x (List.mem_cons_self ..)).2
      rw [← e', e] at this; cases this
    rw [Heap.upd_other _ hb]; exact h3 b o e
theorem cell_elim {cell : AV} (h : (∃ S, cell = .sl .nil S []) ∨ ∃ b S len cap, cell = .ms b 0 S len cap) : acells cell = [cell] ∧ acell1 cell = true := by
  rcases h with ⟨S, rfl⟩ | ⟨b, S, len, cap, rfl⟩ <;> exact ⟨rfl, rfl⟩
theorem AL_alsR {o1 o2 : Oper} {t : TypeId} {y : Operand} {v : AV} {dd : TypeDesc} {m : Nat} {zs : List AV} (h1 : o1.op = .alloc t) (hg1 : o1.guard = none) (hd1 : o1.dst = some d) (h2 : o2.op = .store t (.tmp d) y) (hg2 : o2.guard = none) (hd2 : o2.dst = none)
    (hF : AllocF P t dd m zs) (hd : Nat.blt d n = true) (hy : ev tm y = some v) (hyd : otherTmp d y = true) (hv : acells v = [v] ∧ acell1 v = true) (hm : m = 1)
    (k : AL P ρ ops l Q ⟨n, (d, .ip [v]) :: tm, h, ms, h0⟩) : AL P ρ ops (o1 :: o2 :: l) Q ⟨n, tm, h, ms, h0⟩ :=
  AL_als h1 hg1 hd1 h2 hg2 hd2 hF hd hy hyd hv.2 (by rw [hv.1, hm]; rfl) (by rw [hv.1]; exact k)
theorem ghost_freezeI {b : Nat} {cs : List AV} {tm' : List (Nat × AV)} (hb : σ.h b = some (.row cs)) (ht : ∀ k y, look tm' k = some y → ∃ x, look σ.tm k = some x ∧ (Frz b cs x y ∨ ∃ x0 y0, x = .ip [x0] ∧ y = .ip [y0] ∧ AV.cell y0 = true ∧ Frz b cs x0 y0)) : Ghost σ { σ with tm := tm', h := σ.h.upd b none } := by
  intro g I a w hs
  obtain ⟨hbase, arr, e, hw, hsz, hcl, hvr, hfree⟩ := hs.wr.obj b _ hb
  have h1 : ∀ o v, I.cell b o = some v → (if o < cs.length then arr[o]? else none) = some v := fun o v k => by rw [hfree] at k; cases k
  have s1 := (hs.delObj b (fun o e => by rw [hb] at e; cases e; rfl)).setBlk b (fun o => if o < cs.length then arr[o]? else none) h1 (fun o v k => by
    split at k
    · simpa [World.cell?, hw] using k
    · cases k) (by simp [AS.setH])
  refine ⟨_, ⟨s1.le, s1.below, s1.base, s1.wr, s1.size, fun k y hy => ?_, ⟨s1.marks.defs, s1.marks.nodup, s1.marks.here, s1.marks.keep, s1.marks.apart⟩⟩⟩
  obtain ⟨x, hx, hf⟩ := ht k y hy
  have key : ∀ {x y : AV}, Frz b cs x y → ∀ {v : Value}, VR (I.setBlk b (fun o => if o < cs.length then arr[o]? else none)) x v → VR (I.setBlk b (fun o => if o < cs.length then arr[o]? else none)) y v := fun hf => by
    refine hf.vr (u := fun j => arr.getD j default) (fun j a ha => ?_) hcl (fun j a ha => (hvr j a ha).mono (Imm.le_setBlk h1))
    have hlt : j < cs.length := (List.getElem?_eq_some_iff.1 ha).1
    simp [Imm.setBlk, hlt, Array.getElem?_eq_getElem (show j < arr.size by omega), Array.getD_eq_getD_getElem?]
  rcases hf with hf | ⟨x0, y0, rfl, rfl, hc, hf⟩
  · exact key hf (s1.slot k x hx)
  · have h2 := s1.slot k _ hx
    generalize a.tmps.getD k undef = v at h2 ⊢
    cases h2 with
    | ip _ ad u hs' hcl' hc' hv' =>
      refine .ip _ ad u hs' (fun a ha => by rw [List.mem_singleton] at ha; subst ha; exact hc) (fun j a ha => ?_) (fun j a ha => ?_)
      · match j, ha with
        | 0, ha => exact hc' 0 x0 rfl
      · match j, ha with
        | 0, ha => cases ha; exact key hf (hv' 0 x0 rfl)
theorem ghost_ungrow {hq : Heap} {S m k : Nat} {own : Own} {es : List (List AV)} (hk : look tm k = some (.sl own S es)) (hG : Grow hq S m own h) : Ghost ⟨n, tm, h, ms, h0⟩ ⟨n, (k, .sl .any S es) :: tm, hq, ms, h0⟩ := by
  have hw : Ghost ⟨n, tm, h, ms, h0⟩ ⟨n, (k, .sl .any S es) :: tm, h, ms, h0⟩ := ghost_weak hk fun I x hx => by
    cases hx with
    | slnil => exact .slnil _ _ (.inr rfl)
    | sl _ _ _ ad cap u ho hl hcl hc hv => exact .sl _ _ _ ad cap u ⟨ho.1, ho.2.1, trivial⟩ hl hcl hc hv
  rcases hG with ⟨-, rfl⟩ | ⟨-, rfl⟩ | ⟨b, -, hb, rfl⟩
  · exact hw
  · exact hw
  · refine hw.trans ?_
    intro g I a w hs
    have hs2 := hs.delObj b (fun o e => by rw [show (AS.h ⟨n, (k, AV.sl Own.any S es) :: tm, hq.upd b (some (AObj.tok m S)), ms, h0⟩) b = _ from Heap.upd_same ..] at e; cases e; rfl)
    refine ⟨I, ?_⟩
    have : (hq.upd b (some (AObj.tok m S))).upd b none = hq := by
      funext x
      by_cases e : x = b
      · subst e; rw [Heap.upd_same, hb]
      · rw [Heap.upd_other _ e, Heap.upd_other _ e]
    simp only [AS.setH, this] at hs2
    exact hs2
end
end Go.AM
namespace Go.AM.Tryd
open Go Go.AM Go.AM.D Go.AM.Tarjan
def nmA (g : Graph) (x : Nat) : Term := g.names.getD x ⟨0, ⟨#[]⟩, ⟨#[]⟩⟩
theorem nmA_get {g : Graph} {x : Nat} (h : x < g.names.length) : g.names[x]? = some (nmA g x) := by
  rw [nmA, List.getD_eq_getElem?_getD, List.getElem?_eq_getElem h]; rfl
def edgeF (ofs : List Int) (dn : List Bool) (c : Int) : List Edg → Bool
  | [] => true
  | e :: l => if (decide (ofs.getD e.to.toNat 0 ≠ c) && !(dn.getD (ofs.getD e.to.toNat 0).toNat false)) = true then false else edgeF ofs dn c l
def memF (g : Graph) (ofs : List Int) (dn : List Bool) (c : Int) : List Int → Bool
  | [] => true
  | x :: l => if edgeF ofs dn c (g.out.getD x.toNat []) = true then memF g ofs dn c l else false
def readyF (g : Graph) (ofs : List Int) (dn : List Bool) (c : Nat) (C : List Int) : Bool := memF g ofs dn c C && !(dn.getD c false)
end Go.AM.Tryd
end
section
set_option maxRecDepth 100000
set_option maxHeartbeats 4000000
set_option linter.unusedVariables false
set_option linter.unusedSimpArgs false
namespace Go.AM.Tryd
open Go Go.AM Go.AM.D
open Go.AM.Tarjan
theorem cmp26_ (g : Graph) (x y : Nat) (hx : x < g.names.length) (hy : y < g.names.length) : PFn PR (.fn (.func 15) [] [.ip [.ip (eGraph g)]]) [.lit (.int .i64 ((x : Nat) : Int)), .lit (.int .i64 ((y : Nat) : Int))] (.lit (.int .i64 (orderT (nmA g x) (nmA g y)))) := by
  refine PFn_of Go.Proofs.Tryz.func15 rfl (by rfl) Go.Proofs.Tryz.ntmps15 rfl (by simp) fun h => ?_
  refine AW_x [] [] ?_
  refine ⟨⟨hmixed, by kernel_rfl⟩, T56, F62_0, T37, L37, _, ⟨rfl, (by first | decide | omega), (mget (nmA_get hx))⟩, T25, T56, F62_0, T37, L37, _, ⟨rfl, (by first | decide | omega), (mget (nmA_get hy))⟩, T25, _, (order_ _ _), ?_⟩
  exact AW_ret (ret_le2 (.inl rfl) rfl rfl (.refl _))
theorem ready_ (g : Graph) (hok : okG g) (gl : List (List Int)) (ofs : List Int) (dn : List Bool) (bd c : Nat) (C : List Int) (h : Heap) (hgl : gl.length ≤ 1048576) (hC : gl[c]? = some C) (hCl : C.length ≤ 1048576) (hCm : ∀ x ∈ C, 0 ≤ x ∧ x.toNat < g.out.length) (hofl : ofs.length = g.names.length) (hof : ∀ q ∈ ofs, 0 ≤ q ∧ q.toNat < gl.length) (hd : h bd = some (.row (bools dn))) (hdl : dn.length = gl.length) : AFn PR (.fn (.func 17) [] [.ip [.sl .any 1 (gl.map (fun l => [.sl .any 1 (l.map eI64)]))], .ip [.ip (eGraph g)], .ip [.sl .any 1 (ofs.map eI64)], .ip [.ms bd 0 1 gl.length gl.length]]) [.lit (.int .i64 ((c : Nat) : Int))] h (fun a h' => a = .lit (.bool (readyF g ofs dn c C)) ∧ h.le h') := by
  have hgo := hok.2.1
  have hgn := hok.1
  have hcl : c < gl.length := (List.getElem?_eq_some_iff.1 hC).1
  refine AFn_qc Go.Proofs.Tryz.func17 rfl (by rfl) Go.Proofs.Tryz.ntmps17 rfl (by simp) ?_
  refine AW_x [] [(11, 3)] ?_
  refine ⟨T28, L28, _, ⟨rfl, (by first | decide | omega), (mget hC)⟩, T32, L32, _, lm, ?_⟩
  refine AW_it [] [] [(0, _), (2, _), (3, _), (4, _), (6, _), (14, _), (15, _)] (fun (i : Nat) => [(16, .lit (.int .i64 ((i : Nat) : Int)))]) (fun (i : Nat) => h) (fun (i : Nat) => i ≤ C.length ∧ memF g ofs dn c C = memF g ofs dn c (C.drop i)) (fun (i : Nat) => C.length - i) (0) ⟨rfl, rfl, rfl, rfl, rfl, rfl, rfl, trivial⟩ ⟨rfl, trivial⟩ rfl (⟨by omega, rfl⟩) ?_
  rintro i ⟨hIi, hSi⟩
  refine brD (fun hc0 => ?_) (fun hc0 => ?_)
  · skip
    obtain ⟨x, hrx, hdx, hmx⟩ := drop_at (l := C) (i := i) (by omega)
    rw [hdx, memF] at hSi
    have hxm := hCm x hmx
    obtain ⟨es, hes⟩ : ∃ es, g.out[x.toNat]? = some es := ⟨_, List.getElem?_eq_getElem (by omega)⟩
    have hesg : g.out.getD x.toNat [] = es := by rw [List.getD_eq_getElem?_getD, hes]; rfl
    have hesm := (hok.2.2 es (List.mem_of_getElem? hes)).2
    rw [hesg] at hSi
    have hesl := (hok.2.2 es (List.mem_of_getElem? hes)).1
    refine ⟨L32, _, ⟨rfl, (by first | decide | omega), (mget hrx)⟩, T3, T56, F62_2, T60, L60, _, ⟨rfl, (by first | decide | omega), (mget hes)⟩, T81, L81, _, lm, ?_⟩
    refine AW_it [] [(7, 15)] [(16, _), (0, _), (2, _), (3, _), (4, _), (6, _), (14, _), (15, _), (26, _), (27, _)] (fun (j : Nat) => [(28, .lit (.int .i64 ((j : Nat) : Int)))]) (fun (j : Nat) => h) (fun (j : Nat) => j ≤ es.length ∧ edgeF ofs dn c es = edgeF ofs dn c (es.drop j)) (fun (j : Nat) => es.length - j) (0) ⟨rfl, rfl, rfl, rfl, rfl, rfl, rfl, rfl, rfl, rfl, trivial⟩ ⟨rfl, trivial⟩ rfl (⟨by omega, rfl⟩) ?_
    rintro j ⟨hIj, hSj⟩
    refine brD (fun hc2 => ?_) (fun hc2 => ?_)
    · skip
      obtain ⟨e, hre, hde, hme⟩ := drop_at (l := es) (i := j) (by omega)
      rw [hde, edgeF] at hSj
      have het := hesm e hme
      obtain ⟨q, hq⟩ : ∃ q, ofs[e.to.toNat]? = some q := ⟨_, List.getElem?_eq_getElem (by omega)⟩
      have hqe : ofs.getD e.to.toNat 0 = q := by rw [List.getD_eq_getElem?_getD, hq]; rfl
      have hqb := hof q (List.mem_of_getElem? hq)
      rw [hqe] at hSj
      refine ⟨L81, _, ⟨rfl, (by first | decide | omega), (mget hre)⟩, T83, ?_⟩
      refine AL_als rfl rfl rfl rfl rfl rfl al83 rfl rfl rfl rfl rfl ?_
      refine AL_nil ?_
      refine ⟨⟨hmixed, by kernel_rfl⟩, T32, F83_0, T3, L32, _, ⟨rfl, (by first | decide | omega), (mget hq)⟩, T3, _, fun hg39 => ⟨T80, T32, F83_0, T3, L32, _, ⟨rfl, (by first | decide | omega), (mget hq)⟩, T3, L80, _, ixn (by first | decide | omega) (by first | omega | simpa using (by omega)), (.lit (.bool (dn.getD q.toNat false))), PO_ldb rfl ty4 rfl hd (by omega), rfl⟩, fun hc7 => ?_, fun hc7 => ?_⟩
      · skip
        rw [if_pos hc7] at hSj
        refine AW_ret ?_
        exact ret_R (.inl rfl) rfl ⟨by rw [readyF, hSi, if_neg (by rw [hSj]; simp)]; rfl, .refl _⟩
      · skip
        rw [if_neg (by rw [hc7]; simp)] at hSj
        refine ⟨_, f1 (by first | omega | (simp_all <;> omega)), ?_⟩
        exact ⟨j + 1, ⟨by omega, hSj⟩, by omega, ⟨rfl, ⟨rfl, rfl, rfl, rfl, rfl, rfl, rfl, rfl, rfl, rfl, rfl, trivial⟩, rfl, rfl, rfl⟩⟩
    · skip
      rw [drop_end (l := es) (i := j) (by omega), edgeF] at hSj
      rw [if_pos hSj] at hSi
      refine ⟨_, f1 (by first | omega | (simp_all <;> omega)), ?_⟩
      exact ⟨i + 1, ⟨by omega, hSi⟩, by omega, ⟨rfl, ⟨rfl, rfl, rfl, rfl, rfl, rfl, rfl, rfl, trivial⟩, rfl, rfl, rfl⟩⟩
  · skip
    rw [drop_end (l := C) (i := i) (by omega), memF] at hSi
    refine ⟨T80, L80, _, ixj (by first | omega | simpa using (by omega)), (.lit (.bool (dn.getD c false))), PO_ldb rfl ty4 rfl hd (by omega), ?_⟩
    refine AW_ret ?_
    exact ret_R (.inl rfl) rfl ⟨by rw [readyF, hSi]; rfl, .refl _⟩
end Go.AM.Tryd
end
section
set_option linter.unusedVariables false
set_option linter.unusedSimpArgs false
namespace Go.AM
open Go Go.Lib
structure CmpOk {α : Type} (c : α → α → Int) : Prop where
  sym : ∀ a b, c b a = - c a b
  zero : ∀ a b, c a b = 0 → a = b
  trans : ∀ a b d, c a b < 0 → c b d < 0 → c a d < 0
theorem CmpOk.self {α : Type} {c : α → α → Int} (h : CmpOk c) (a : α) : c a a = 0 := by have := h.sym a a; omega
theorem cb_sym : ∀ a b : List UInt8, compareBytes b a = - compareBytes a b
  | [], [] => rfl
  | [], _ :: _ => rfl
  | _ :: _, [] => rfl
  | a :: al, b :: bs => by
    simp only [compareBytes]
    have ih := cb_sym al bs
    by_cases h1 : a < b
    · have h2 : ¬ b < a := fun h => by rw [UInt8.lt_iff_toNat_lt] at h h1; omega
      rw [if_neg h2, if_pos h1, if_pos h1]; rfl
    · by_cases h2 : b < a
      · rw [if_pos h2, if_neg h1, if_pos h2]
      · rw [if_neg h1, if_neg h2, if_neg h2, if_neg h1, ih]
theorem cb_zero : ∀ a b : List UInt8, compareBytes a b = 0 → a = b
  | [], [], _ => rfl
  | [], _ :: _, h => by simp [compareBytes] at h
  | _ :: _, [], h => by simp [compareBytes] at h
  | a :: al, b :: bs, h => by
    simp only [compareBytes] at h
    by_cases h1 : a < b
    · rw [if_pos h1] at h; omega
    · by_cases h2 : b < a
      · rw [if_neg h1, if_pos h2] at h; omega
      · rw [if_neg h1, if_neg h2] at h
        have e : a = b := by
          rw [UInt8.lt_iff_toNat_lt] at h1 h2
          exact UInt8.toNat_inj.1 (by omega)
        rw [e, cb_zero al bs h]
theorem cb_trans : ∀ a b d : List UInt8, compareBytes a b < 0 → compareBytes b d < 0 → compareBytes a d < 0
  | [], [], _, h, _ => by simp [compareBytes] at h
  | _ :: _, [], _, h, _ => by simp [compareBytes] at h
  | _, _ :: _, [], _, h => by simp [compareBytes] at h
  | [], _ :: _, _ :: _, _, _ => by simp [compareBytes]
  | a :: al, b :: bs, d :: ds, h, k => by
    simp only [compareBytes] at h k ⊢
    by_cases h1 : a < d
    · rw [if_pos h1]; omega
    · rw [if_neg h1]
      by_cases ab : a < b
      · by_cases bd : b < d
        · exfalso; rw [UInt8.lt_iff_toNat_lt] at *; omega
        · rw [if_neg bd] at k
          by_cases db : d < b
          · rw [if_pos db] at k; omega
          · exfalso; rw [UInt8.lt_iff_toNat_lt] at *; omega
      · rw [if_neg ab] at h
        by_cases ba : b < a
        · rw [if_pos ba] at h; omega
        · rw [if_neg ba] at h
          by_cases bd : b < d
          · exfalso; rw [UInt8.lt_iff_toNat_lt] at *; omega
          · rw [if_neg bd] at k
            by_cases db : d < b
            · rw [if_pos db] at k; omega
            · rw [if_neg db] at k
              rw [if_neg (by rw [UInt8.lt_iff_toNat_lt] at *; omega)]
              exact cb_trans al bs ds h k
end Go.AM
namespace Go.AM.Tryd
open Go Go.AM Go.AM.D Go.Sort Go.Proofs Go.Lib
theorem cmpK_ok : CmpOk cmpK := by
  refine ⟨fun a b => ?_, fun a b h => ?_, fun a b d h k => ?_⟩ <;> simp only [cmpK] at * <;> split at * <;> (try split) <;> (try omega) <;> (split at * <;> (try split) <;> omega)
theorem cmpB_ok : CmpOk cmpB := ⟨fun a b => cb_sym _ _, fun a b h => by
  have := cb_zero _ _ h
  cases a; cases b; congr 1; exact Array.toList_inj.1 this, fun a b d => cb_trans _ _ _⟩
theorem cmpT_ok : CmpOk cmpT := by
  have e : ∀ a b, cmpT a b = if cmpK a.kind b.kind ≠ 0 then cmpK a.kind b.kind else if cmpB a.text b.text ≠ 0 then cmpB a.text b.text else if cmpB a.extra b.extra ≠ 0 then cmpB a.extra b.extra else 0 := fun _ _ => rfl
  refine ⟨fun a b => ?_, fun a b h => ?_, fun a b d h k => ?_⟩
  · have h1 := cmpK_ok.sym a.kind b.kind
    have h2 := cmpB_ok.sym a.text b.text
    have h3 := cmpB_ok.sym a.extra b.extra
    rw [e, e]
    split <;> split <;> (try omega) <;> split <;> split <;> (try omega) <;> split <;> split <;> omega
  · rw [e] at h
    have h1 : cmpK a.kind b.kind = 0 := by by_cases q : cmpK a.kind b.kind = 0; exact q; rw [if_pos q] at h; exact h
    rw [if_neg (by simp [h1])] at h
    have h2 : cmpB a.text b.text = 0 := by by_cases q : cmpB a.text b.text = 0; exact q; rw [if_pos q] at h; exact h
    rw [if_neg (by simp [h2])] at h
    have h3 : cmpB a.extra b.extra = 0 := by by_cases q : cmpB a.extra b.extra = 0; exact q; rw [if_pos q] at h; exact h
    have e1 := cmpK_ok.zero _ _ h1; have e2 := cmpB_ok.zero _ _ h2; have e3 := cmpB_ok.zero _ _ h3
    cases a; cases b; simp only at e1 e2 e3; subst e1 e2 e3; rfl
  · rw [e] at h k ⊢
    by_cases q1 : cmpK a.kind b.kind = 0
    · have := cmpK_ok.zero _ _ q1
      rw [if_neg (by simp [q1])] at h
      rw [← this] at k
      by_cases q2 : cmpK a.kind d.kind = 0
      · rw [if_neg (by simp [q2])] at k ⊢
        by_cases r1 : cmpB a.text b.text = 0
        · have := cmpB_ok.zero _ _ r1
          rw [if_neg (by simp [r1])] at h
          rw [← this] at k
          by_cases r2 : cmpB a.text d.text = 0
          · rw [if_neg (by simp [r2])] at k ⊢
            by_cases s1 : cmpB a.extra b.extra = 0
            · rw [if_neg (by simp [s1])] at h; omega
            · rw [if_pos s1] at h
              by_cases s2 : cmpB b.extra d.extra = 0
              · rw [if_neg (by simp [s2])] at k; omega
              · rw [if_pos s2] at k
                have := cmpB_ok.trans _ _ _ h k
                rw [if_pos (by omega)]; exact this
          · rw [if_pos r2] at k ⊢; exact k
        · rw [if_pos r1] at h
          by_cases r2 : cmpB b.text d.text = 0
          · have := cmpB_ok.zero _ _ r2
            rw [← this, if_pos r1]; exact h
          · rw [if_pos r2] at k
            have := cmpB_ok.trans _ _ _ h k
            rw [if_pos (by omega)]; exact this
      · rw [if_pos q2] at k ⊢; exact k
    · rw [if_pos q1] at h
      by_cases q2 : cmpK b.kind d.kind = 0
      · have := cmpK_ok.zero _ _ q2
        rw [← this, if_pos q1]; exact h
      · rw [if_pos q2] at k
        have := cmpK_ok.trans _ _ _ h k
        rw [if_pos (by omega)]; exact this
theorem orderT_neg (a b : Term) : decide (orderT a b < 0) = decide (cmpT a b < 0) := by
  simp only [orderT, lessT]
  by_cases h : cmpT a b < 0
  · simp [h]
  · simp only [h, decide_false, Bool.false_eq_true, if_false]
    by_cases k : cmpT b a < 0
    · simp [k]
    · simp [k]
variable {g : Graph}
theorem ordG_swo {n : Nat} (f : Fin n → Nat) : SWO (ltOf fun x y : Fin n => orderT (nmA g (f x)) (nmA g (f y))) := by
  have e : ∀ x y : Fin n, (ltOf fun x y : Fin n => orderT (nmA g (f x)) (nmA g (f y))) x y = decide (cmpT (nmA g (f x)) (nmA g (f y)) < 0) := fun x y => orderT_neg _ _
  refine ⟨fun x => ?_, fun x y z h k => ?_, fun x y z h k => ?_⟩
  · rw [e, cmpT_ok.self]; rfl
  · rw [e] at h k ⊢
    exact decide_eq_true (cmpT_ok.trans _ _ _ (of_decide_eq_true h) (of_decide_eq_true k))
  · rw [e] at h k ⊢
    have h := of_decide_eq_false h; have k := of_decide_eq_false k
    refine decide_eq_false fun q => ?_
    by_cases z0 : cmpT (nmA g (f x)) (nmA g (f y)) = 0
    · have := cmpT_ok.zero _ _ z0
      rw [this] at q; exact k q
    · have h2 := cmpT_ok.sym (nmA g (f x)) (nmA g (f y))
      exact k (cmpT_ok.trans _ _ _ (by omega) q)
theorem nmA_inj (hnd : g.names.Nodup) {x y : Nat} (hx : x < g.names.length) (hy : y < g.names.length) (e : nmA g x = nmA g y) : x = y := by
  have h1 := nmA_get hx; have h2 := nmA_get hy
  rw [e] at h1
  exact (List.getElem?_inj hx hnd).1 (h1.trans h2.symm)
theorem ordG_tot (hnd : g.names.Nodup) (x y : Fin g.names.length) (h : (ltOf fun x y : Fin g.names.length => orderT (nmA g x) (nmA g y)) x y = false) (k : (ltOf fun x y : Fin g.names.length => orderT (nmA g x) (nmA g y)) y x = false) : x = y := by
  rw [show (ltOf fun x y : Fin g.names.length => orderT (nmA g x) (nmA g y)) x y = decide (cmpT (nmA g x) (nmA g y) < 0) from orderT_neg _ _] at h
  rw [show (ltOf fun x y : Fin g.names.length => orderT (nmA g x) (nmA g y)) y x = decide (cmpT (nmA g y) (nmA g x) < 0) from orderT_neg _ _] at k
  have h := of_decide_eq_false h; have k := of_decide_eq_false k
  have := cmpT_ok.sym (nmA g x) (nmA g y)
  exact Fin.ext (nmA_inj hnd x.2 y.2 (cmpT_ok.zero _ _ (by omega)))
def srtG (g : Graph) (C : List Nat) : List Nat := C.mergeSort fun x y => !decide (orderT (nmA g y) (nmA g x) < 0)
theorem srtG_perm (g : Graph) (C : List Nat) : (srtG g C).Perm C := List.mergeSort_perm ..
theorem sortG_ (hnd : g.names.Nodup) (hm : 0 < g.names.length) {b cp : Nat} {ns : List Int} {h : Heap} (C : List Nat) (hC : ∀ x ∈ C, x < g.names.length) (hb : h b = some (.row (ints ns))) (hl : ns.take C.length = nI C) (hll : C.length ≤ ns.length) (hsz : C.length < 4611686018427387904) :
    AFn PR (.fn (.func 14) [] []) [.ms b 0 1 C.length cp, .fn (.func 15) [] [.ip [.ip (eGraph g)]]] h (fun a h' => a = .junk ∧ h' = h.upd b (some (.row (ints (nI (srtG g C) ++ ns.drop C.length))))) := by
  haveI : Inhabited (Fin g.names.length) := ⟨⟨0, hm⟩⟩
  obtain ⟨L, hL⟩ : ∃ L : List (Fin g.names.length), L.map Fin.val = C := ⟨C.pmap Fin.mk hC, by simp [List.map_pmap]⟩
  have hll2 : L.length = C.length := by rw [← hL, List.length_map]
  have hen : L.map (fun x => ((x.val : Nat) : Int)) = nI C := by rw [← hL, nI, List.map_map]; rfl
  have hs : (L.mergeSort fun x y => !(ltOf fun x y : Fin g.names.length => orderT (nmA g x) (nmA g y)) y x).map Fin.val = srtG g C := by
    rw [srtG, ← hL]
    exact List.map_mergeSort fun a _ b _ => rfl
  obtain ⟨c26, hc26⟩ : ∃ c, Go.Proofs.Tryz.f15.body = some c := ⟨_, rfl⟩
  have key := sort_ (cp := cp) (fun x : Fin g.names.length => ((x.val : Nat) : Int)) (fun x y => orderT (nmA g x) (nmA g y)) (ordG_swo _) (ordG_tot hnd) L Go.Proofs.Tryz.func15 hc26 rfl (fun x y => cmp26_ g x y x.2 y.2) hb (by rw [hll2, hen]; exact hl) (by omega) (by omega)
  rw [hll2] at key
  refine key.mono fun a h' e => ⟨e.1, ?_⟩
  rw [e.2]
  congr 4
  rw [← hs, nI, List.map_map]; rfl
end Go.AM.Tryd
end
section
set_option maxRecDepth 100000
set_option linter.unusedVariables false
set_option linter.unusedSimpArgs false
namespace Go.AM.Tryd
open Go Go.AM Go.AM.D Go.AM.Tarjan
def setAll (ofs : List Int) (v : Int) : List Nat → List Int
  | [] => ofs
  | x :: l => setAll (ofs.set x v) v l
theorem setAll_len (v : Int) : ∀ (l : List Nat) (ofs : List Int), (setAll ofs v l).length = ofs.length
  | [], _ => rfl
  | x :: l, ofs => by rw [setAll, setAll_len v l, List.length_set]
theorem setAll_snoc (v : Int) (x : Nat) : ∀ (l : List Nat) (ofs : List Int), setAll ofs v (l ++ [x]) = (setAll ofs v l).set x v
  | [], _ => rfl
  | y :: l, ofs => setAll_snoc v x l _
theorem setAll_get (v : Int) (q : Nat) : ∀ (l : List Nat) (ofs : List Int), (∀ x ∈ l, x < ofs.length) → (setAll ofs v l).getD q 0 = if q ∈ l then v else ofs.getD q 0
  | [], _, _ => by simp [setAll]
  | x :: l, ofs, h => by
    rw [setAll, setAll_get v q l _ (fun y hy => by rw [List.length_set]; exact h y (List.mem_cons_of_mem _ hy))]
    have hx := h x (List.mem_cons_self ..)
    by_cases hq : q ∈ l
    · simp [hq]
    · by_cases e : x = q
      · subst e; simp [hq, List.getD_eq_getElem?_getD, hx]
      · simp [hq, Ne.symm e, List.getD_eq_getElem?_getD, e]
structure OfOk (out : List (List Nat)) (i : Nat) (ofs : List Int) (m : Nat) : Prop where
  len : ofs.length = m
  of : ∀ (c : Nat) C, out[c]? = some C → c < i → ∀ x ∈ C, ofs.getD x 0 = c
theorem parts_apart {out : List (List Nat)} (hn : out.flatten.Nodup) {c i : Nat} {D C : List Nat} (hc : out[c]? = some D) (hi : out[i]? = some C) {x : Nat} (hx : x ∈ D) (hy : x ∈ C) : c = i := by
  have hp := (List.pairwise_flatten.1 hn).2
  obtain ⟨c1, c2⟩ := List.getElem?_eq_some_iff.1 hc
  obtain ⟨i1, i2⟩ := List.getElem?_eq_some_iff.1 hi
  have hq := List.pairwise_iff_getElem.1 hp
  rcases Nat.lt_trichotomy c i with h | h | h
  · exact absurd rfl (hq c i c1 i1 h x (by rw [c2]; exact hx) x (by rw [i2]; exact hy))
  · exact h
  · exact absurd rfl (hq i c i1 c1 h x (by rw [i2]; exact hy) x (by rw [c2]; exact hx))
theorem OfOk.next {g : Graph} {out : List (List Nat)} {i : Nat} {ofs : List Int} {m : Nat} (h : OfOk out i ofs m) {C : List Nat} (hC : out[i]? = some C) (hn : out.flatten.Nodup) (hm : ∀ D ∈ out, ∀ x ∈ D, x < m) : OfOk out (i + 1) (setAll ofs ((i : Nat) : Int) (srtG g C)) m := by
  have hmem : ∀ x, x ∈ srtG g C ↔ x ∈ C := fun x => (srtG_perm g C).mem_iff
  refine ⟨by rw [setAll_len]; exact h.len, fun c D hD hc x hx => ?_⟩
  rw [setAll_get _ _ _ _ (fun y hy => by rw [h.len]; exact hm C (List.mem_of_getElem? hC) y ((hmem y).1 hy))]
  by_cases e : c = i
  · subst e
    rw [hC] at hD; cases hD
    rw [if_pos ((hmem x).2 hx)]
  · rw [if_neg (fun hq => e (parts_apart hn hD hC hx ((hmem x).1 hq)))]
    exact h.of c D hD (by omega) x hx
theorem mid_set {α β : Type} {f : α → β} {g : α → β} {out : List α} {i : Nat} {C : α} (hC : out[i]? = some C) : ((out.take i).map f ++ (out.drop i).map g).set i (f C) = (out.take (i + 1)).map f ++ (out.drop (i + 1)).map g := by
  obtain ⟨hi, e⟩ := List.getElem?_eq_some_iff.1 hC
  rw [List.drop_eq_getElem_cons hi, e, List.take_add_one, hC, List.set_append_right _ _ (by simp; omega)]
  have : i - ((out.take i).map f).length = 0 := by simp; omega
  rw [this]
  simp
structure CG (g : Graph) (gl : List (List Int)) (ofs : List Int) : Prop where
  len : gl.length ≤ g.names.length
  mem : ∀ C ∈ gl, C ≠ [] ∧ C.length ≤ g.names.length ∧ ∀ x ∈ C, 0 ≤ x ∧ x.toNat < g.names.length
  ofl : ofs.length = g.names.length
  ofb : ∀ q ∈ ofs, 0 ≤ q ∧ q.toNat < gl.length
  rdy : ∀ dn : List Bool, dn.length = gl.length → false ∈ dn → ∃ c C, gl[c]? = some C ∧ readyF g ofs dn c C = true
theorem edgeF_iff (ofs : List Int) (dn : List Bool) (c : Int) : ∀ l : List Edg, edgeF ofs dn c l = true ↔ ∀ e ∈ l, ofs.getD e.to.toNat 0 = c ∨ dn.getD (ofs.getD e.to.toNat 0).toNat false = true
  | [] => by simp [edgeF]
  | e :: l => by
    rw [edgeF, List.forall_mem_cons, ← edgeF_iff ofs dn c l]
    by_cases h1 : ofs.getD e.to.toNat 0 = c
    · simp [h1]
    · cases h2 : dn.getD (ofs.getD e.to.toNat 0).toNat false <;> simp [h1, h2]
theorem memF_iff (g : Graph) (ofs : List Int) (dn : List Bool) (c : Int) : ∀ l : List Int, memF g ofs dn c l = true ↔ ∀ x ∈ l, ∀ e ∈ g.out.getD x.toNat [], ofs.getD e.to.toNat 0 = c ∨ dn.getD (ofs.getD e.to.toNat 0).toNat false = true
  | [] => by simp [memF]
  | x :: l => by
    rw [memF, List.forall_mem_cons, ← memF_iff g ofs dn c l, ← edgeF_iff]
    split <;> rename_i h
    · exact ⟨fun k => ⟨h, k⟩, fun k => k.2⟩
    · exact ⟨fun k => (by cases k), fun k => absurd k.1 h⟩
theorem readyF_iff (g : Graph) (ofs : List Int) (dn : List Bool) (c : Nat) (C : List Int) : readyF g ofs dn c C = true ↔ (∀ x ∈ C, ∀ e ∈ g.out.getD x.toNat [], ofs.getD e.to.toNat 0 = c ∨ dn.getD (ofs.getD e.to.toNat 0).toNat false = true) ∧ dn.getD c false = false := by
  rw [readyF, Bool.and_eq_true, memF_iff, Bool.not_eq_true']
theorem countP_lt {α : Type} {p q : α → Bool} : ∀ {l : List α}, (∀ x ∈ l, p x = true → q x = true) → (∃ x ∈ l, q x = true ∧ p x = false) → l.countP p < l.countP q
  | [], _, ⟨x, hx, _⟩ => by cases hx
  | y :: l, h, hx => by
    rw [List.countP_cons, List.countP_cons]
    have hle : l.countP p ≤ l.countP q := List.countP_mono_left fun x hx => h x (List.mem_cons_of_mem _ hx)
    have hy := h y (List.mem_cons_self ..)
    cases hp : p y with
    | true => 
      rw [hy hp]
      obtain ⟨x, hx, h1, h2⟩ := hx
      rcases List.mem_cons.1 hx with rfl | hx
      · rw [hp] at h2; cases h2
      · have := countP_lt (l := l) (fun x hx => h x (List.mem_cons_of_mem _ hx)) ⟨x, hx, h1, h2⟩
        simpa using this
    | false =>
      cases hq : q y with
      | true => simp; omega
      | false =>
        obtain ⟨x, hx, h1, h2⟩ := hx
        rcases List.mem_cons.1 hx with rfl | hx
        · rw [hq] at h1; cases h1
        · have := countP_lt (l := l) (fun x hx => h x (List.mem_cons_of_mem _ hx)) ⟨x, hx, h1, h2⟩
          simpa using this
theorem nodup_lt : ∀ (m : Nat) (l : List Nat), l.Nodup → (∀ x ∈ l, x < m) → l.length ≤ m
  | 0, [], _, _ => Nat.le_refl _
  | 0, x :: l, _, h => absurd (h x (List.mem_cons_self ..)) (Nat.not_lt_zero _)
  | m + 1, l, hn, h => by
    have ih := nodup_lt m (l.erase m) (hn.erase m) (fun x hx => by
      rw [hn.mem_erase_iff] at hx
      have := h x hx.2
      omega)
    by_cases hm : m ∈ l
    · rw [List.length_erase_of_mem hm] at ih; omega
    · rw [List.erase_of_not_mem hm] at ih; omega
structure Parts (g : Graph) (out : List (List Nat)) : Prop where
  len : out.length ≤ g.names.length
  lt : ∀ C ∈ out, ∀ x ∈ C, x < g.names.length
  nd : out.flatten.Nodup
  cov : ∀ x, x < g.names.length → ∃ (c : Nat) (C : List Nat), out[c]? = some C ∧ x ∈ C
  scc : ∀ C ∈ out, C ≠ [] ∧ ∀ x ∈ C, ∀ y, y ∈ C ↔ (Rch (adjG g) x y ∧ Rch (adjG g) y x)
theorem parts_of {g : Graph} {idx low : List Int} {cnt : Nat} {out : List (List Nat)} (h : TJ (adjG g) g.names.length idx low [] [] none cnt out) (ha : ∀ q, q < g.names.length → g0 idx q ≠ 0) : Parts g out := by
  refine ⟨by have := h.siz; have := h.num; omega, fun C hC x hx => ((h.outs x).1 (List.mem_flatten.2 ⟨C, hC, hx⟩)).1, h.ond, fun x hx => ?_, h.scc⟩
  obtain ⟨C, hC, hxC⟩ := List.mem_flatten.1 ((h.outs x).2 ⟨hx, ha x hx, by simp⟩)
  obtain ⟨c, hc⟩ := List.mem_iff_getElem?.1 hC
  exact ⟨c, C, hc, hxC⟩
theorem Parts.small {g : Graph} {out : List (List Nat)} (h : Parts g out) {C : List Nat} (hC : C ∈ out) : C.length ≤ g.names.length := by
  exact nodup_lt _ _ ((List.pairwise_flatten.1 h.nd).1 C hC) (h.lt C hC)
section
open Classical
noncomputable def reachN (g : Graph) (x : Nat) : Nat := (List.range g.names.length).countP fun y => decide (Rch (adjG g) x y)
theorem parts_ready {g : Graph} (hok : okG g) {out : List (List Nat)} (h : Parts g out) {ofs : List Int} (hof : OfOk out out.length ofs g.names.length) {dn : List Bool} (hd : dn.length = out.length) :
    ∀ (n c : Nat) (C : List Nat) (x : Nat), out[c]? = some C → x ∈ C → dn.getD c false = false → reachN g x < n → ∃ c C, out[c]? = some C ∧ readyF g ofs dn c (nI C) = true
  | 0, _, _, _, _, _, _, hr => by omega
  | n + 1, c, C, x, hC, hx, hdc, hr => by
    by_cases hq : readyF g ofs dn c (nI C) = true
    · exact ⟨c, C, hC, hq⟩
    · rw [readyF_iff] at hq
      have hq2 : ¬ ∀ x ∈ nI C, ∀ e ∈ g.out.getD x.toNat [], ofs.getD e.to.toNat 0 = c ∨ dn.getD (ofs.getD e.to.toNat 0).toNat false = true := fun k => hq ⟨k, hdc⟩
      simp only [Classical.not_forall, not_or] at hq2
      obtain ⟨z0, hz0, e, he, h1, h2⟩ := hq2
      obtain ⟨z, hz, rfl⟩ := List.mem_map.1 hz0
      rw [Int.toNat_natCast] at he
      have hzm := h.lt C (List.mem_of_getElem? hC) z hz
      obtain ⟨es, hes⟩ : ∃ es, g.out[z]? = some es := ⟨_, List.getElem?_eq_getElem (by rw [hok.2.1]; exact hzm)⟩
      rw [List.getD_eq_getElem?_getD, hes, Option.getD_some] at he
      have hb := (hok.2.2 es (List.mem_of_getElem? hes)).2 e he
      have hadj : e.to.toNat ∈ adjG g z := by
        rw [adjG, List.getD_eq_getElem?_getD, hes, Option.getD_some]
        exact List.mem_map.2 ⟨e, he, rfl⟩
      obtain ⟨c', C', hC', hy⟩ := h.cov e.to.toNat (by omega)
      have hcl := (List.getElem?_eq_some_iff.1 hC').1
      have ho := hof.of c' C' hC' hcl _ hy
      rw [ho] at h1 h2
      have hs := h.scc C (List.mem_of_getElem? hC)
      have hs' := h.scc C' (List.mem_of_getElem? hC')
      have hxz := ((hs.2 x hx z).1 hz).1
      have hxy : Rch (adjG g) x e.to.toNat := hxz.trans (.one hadj)
      refine parts_ready hok h hof hd n c' C' e.to.toNat hC' hy (by simpa using h2) ?_
      refine Nat.lt_of_lt_of_le ?_ (Nat.le_of_lt_succ hr)
      refine countP_lt (fun w _ hw => ?_) ⟨x, List.mem_range.2 (h.lt C (List.mem_of_getElem? hC) x hx), ?_, ?_⟩
      · simp only [decide_eq_true_eq] at hw ⊢
        exact hxy.trans hw
      · simp only [decide_eq_true_eq]; exact .refl x
      · simp only [decide_eq_false_iff_not]
        intro hyx
        have : e.to.toNat ∈ C := (hs.2 x hx _).2 ⟨hxy, hyx⟩
        have := parts_apart h.nd hC hC' this hy
        exact h1 (by rw [this])
end
theorem readyF_perm (g : Graph) (ofs : List Int) (dn : List Bool) (c : Nat) {C D : List Int} (h : C.Perm D) : readyF g ofs dn c C = readyF g ofs dn c D := by
  rw [Bool.eq_iff_iff, readyF_iff, readyF_iff]
  constructor <;> rintro ⟨k1, k2⟩ <;> refine ⟨fun x hx => k1 x ?_, k2⟩
  · exact h.mem_iff.2 hx
  · exact h.mem_iff.1 hx
def glOf (g : Graph) (out : List (List Nat)) : List (List Int) := (out.map (srtG g)).map nI
theorem glOf_len (g : Graph) (out : List (List Nat)) : (glOf g out).length = out.length := by simp [glOf]
theorem glOf_get {g : Graph} {out : List (List Nat)} {c : Nat} {C : List Nat} (h : out[c]? = some C) : (glOf g out)[c]? = some (nI (srtG g C)) := by simp [glOf, h]
theorem cg_of {g : Graph} (hok : okG g) {out : List (List Nat)} (h : Parts g out) {ofs : List Int} (hof : OfOk out out.length ofs g.names.length) : CG g (glOf g out) ofs := by
  refine ⟨by rw [glOf_len]; exact h.len, fun D hD => ?_, hof.len, fun q hq => ?_, fun dn hd hf => ?_⟩
  · simp only [glOf, List.map_map, List.mem_map] at hD
    obtain ⟨C, hC, rfl⟩ := hD
    have hl : (srtG g C).length = C.length := (srtG_perm g C).length_eq
    refine ⟨fun e => (h.scc C hC).1 ?_, ?_, fun x hx => ?_⟩
    · have := congrArg List.length e
      simp only [Function.comp_apply, nI_len, hl, List.length_nil] at this
      exact List.eq_nil_of_length_eq_zero this
    · simp only [Function.comp_apply, nI_len, hl]; exact h.small hC
    · obtain ⟨z, hz, rfl⟩ := List.mem_map.1 hx
      have := h.lt C hC z ((srtG_perm g C).mem_iff.1 hz)
      omega
  · obtain ⟨x, hx⟩ := List.mem_iff_getElem?.1 hq
    have hxl := (List.getElem?_eq_some_iff.1 hx).1
    obtain ⟨c, C, hC, hxC⟩ := h.cov x (by rw [← hof.len]; exact hxl)
    have hcl := (List.getElem?_eq_some_iff.1 hC).1
    have ho := hof.of c C hC hcl x hxC
    rw [List.getD_eq_getElem?_getD, hx, Option.getD_some] at ho
    rw [glOf_len]; omega
  · rw [glOf_len] at hd
    obtain ⟨c, hc⟩ := List.mem_iff_getElem?.1 hf
    have hcl : c < out.length := by rw [← hd]; exact (List.getElem?_eq_some_iff.1 hc).1
    have hC : out[c]? = some (out[c]) := List.getElem?_eq_getElem hcl
    obtain ⟨x, hx⟩ := List.exists_mem_of_ne_nil _ (h.scc _ (List.mem_of_getElem? hC)).1
    obtain ⟨c', C', k1, k2⟩ := parts_ready hok h hof hd _ c _ x hC hx (by rw [List.getD_eq_getElem?_getD, hc]; rfl) (Nat.lt_succ_self _)
    exact ⟨c', _, glOf_get k1, by rw [readyF_perm g ofs dn c' (C := nI (srtG g C')) (D := nI C') ((srtG_perm g C').map _)]; exact k2⟩
abbrev hdT (g : Graph) (C : List Int) : Term := nmA g (C.headD 0).toNat
def leastL (g : Graph) (ofs : List Int) (dn : List Bool) (gl : List (List Int)) : Nat → List (List Int) → Int → Int
  | _, [], cur => cur
  | c, C :: l, cur => if (readyF g ofs dn c C && (decide (cur < 0) || lessT (hdT g C) (hdT g (gl.getD cur.toNat [])))) = true then leastL g ofs dn gl (c + 1) l (c : Int) else leastL g ofs dn gl (c + 1) l cur
theorem leastL_ok (g : Graph) (ofs : List Int) (dn : List Bool) (gl : List (List Int)) : ∀ (l : List (List Int)) (c : Nat) (cur : Int), gl.drop c = l → (cur = -1 ∨ (0 ≤ cur ∧ ∃ C, gl[cur.toNat]? = some C ∧ readyF g ofs dn cur.toNat C = true)) →
    (leastL g ofs dn gl c l cur = -1 ∧ cur = -1 ∧ ∀ k C, c ≤ k → gl[k]? = some C → readyF g ofs dn k C = false) ∨ (0 ≤ leastL g ofs dn gl c l cur ∧ ∃ C, gl[(leastL g ofs dn gl c l cur).toNat]? = some C ∧ readyF g ofs dn (leastL g ofs dn gl c l cur).toNat C = true)
  | [], c, cur, hd, hc => by
    rcases hc with rfl | hc
    · refine .inl ⟨rfl, rfl, fun k C hk hC => ?_⟩
      have := (List.getElem?_eq_some_iff.1 hC).1
      have h2 := congrArg List.length hd
      simp at h2; omega
    · exact .inr hc
  | C :: l, c, cur, hd, hc => by
    have hC : gl[c]? = some C := by
      have := congrArg (fun z => z[0]?) hd
      simpa [List.getElem?_drop] using this
    have hd2 : gl.drop (c + 1) = l := by rw [← List.drop_drop, hd]; rfl
    rw [leastL]
    by_cases hq : (readyF g ofs dn c C && (decide (cur < 0) || lessT (hdT g C) (hdT g (gl.getD cur.toNat [])))) = true
    · rw [if_pos hq]
      rw [Bool.and_eq_true] at hq
      have ih := leastL_ok g ofs dn gl l (c + 1) c hd2 (.inr ⟨by omega, C, by rw [Int.toNat_natCast]; exact hC, by rw [Int.toNat_natCast]; exact hq.1⟩)
      rcases ih with ⟨k1, k2, k3⟩ | ih
      · omega
      · exact .inr ih
    · rw [if_neg hq]
      have ih := leastL_ok g ofs dn gl l (c + 1) cur hd2 hc
      rcases ih with ⟨k1, k2, k3⟩ | ih
      · refine .inl ⟨k1, k2, fun k D hk hD => ?_⟩
        by_cases e : k = c
        · subst e
          rw [hC] at hD; cases hD
          subst k2
          simpa using hq
        · exact k3 k D (by omega) hD
      · exact .inr ih
theorem CG.least {g : Graph} {gl : List (List Int)} {ofs : List Int} (h : CG g gl ofs) {dn : List Bool} (hd : dn.length = gl.length) (hf : false ∈ dn) :
    0 ≤ leastL g ofs dn gl 0 gl (-1) ∧ ∃ C, gl[(leastL g ofs dn gl 0 gl (-1)).toNat]? = some C ∧ readyF g ofs dn (leastL g ofs dn gl 0 gl (-1)).toNat C = true := by
  rcases leastL_ok g ofs dn gl gl 0 (-1) rfl (.inl rfl) with ⟨k1, k2, k3⟩ | k
  · obtain ⟨c, C, hC, hr⟩ := h.rdy dn hd hf
    rw [k3 c C (by omega) hC] at hr; cases hr
  · exact k
def nmsA (g : Graph) (C : List Int) : List Term := C.map fun x => nmA g x.toNat
def ansF (g : Graph) (ofs : List Int) (gl : List (List Int)) : Nat → List Bool → List (List Term) → List (List Term)
  | 0, _, a => a
  | k + 1, dn, a => ansF g ofs gl k (dn.set (leastL g ofs dn gl 0 gl (-1)).toNat true) (a ++ [nmsA g (gl.getD (leastL g ofs dn gl 0 gl (-1)).toNat [])])
theorem countF_set : ∀ (dn : List Bool) (c : Nat), c < dn.length → dn.getD c false = false → (dn.set c true).count false + 1 = dn.count false
  | b :: l, 0, _, h => by
    simp only [List.getD_cons_zero] at h; subst h; simp
  | b :: l, c + 1, hl, h => by
    have ih := countF_set l c (by simpa using hl) (by simpa using h)
    simp only [List.set_cons_succ, List.count_cons]; omega
end Go.AM.Tryd
end
section
set_option linter.unusedVariables false
set_option linter.unusedSimpArgs false
set_option maxRecDepth 100000
namespace Go.AM.Tryd
open Go Go.AM Go.AM.D
def cont (b : UInt8) : Bool := decide (128 ≤ b.toNat) && decide (b.toNat < 192)
def dec : List UInt8 → Option (Int × Nat)
  | [] => none
  | a :: l =>
    if a.toNat < 128 then some (a.toNat, 1)
    else if 194 ≤ a.toNat ∧ a.toNat < 224 then match l with
      | b :: _ => if cont b = true then some (64 * ((a.toNat : Int) - 192) + ((b.toNat : Int) - 128), 2) else none
      | _ => none
    else if 224 ≤ a.toNat ∧ a.toNat < 240 then match l with
      | b :: c :: _ => if (cont b && cont c) = true ∧ 2048 ≤ 4096 * ((a.toNat : Int) - 224) + 64 * ((b.toNat : Int) - 128) + ((c.toNat : Int) - 128) ∧ ¬ (55296 ≤ 4096 * ((a.toNat : Int) - 224) + 64 * ((b.toNat : Int) - 128) + ((c.toNat : Int) - 128) ∧ 4096 * ((a.toNat : Int) - 224) + 64 * ((b.toNat : Int) - 128) + ((c.toNat : Int) - 128) ≤ 57343) then some (4096 * ((a.toNat : Int) - 224) + 64 * ((b.toNat : Int) - 128) + ((c.toNat : Int) - 128), 3) else none
      | _ => none
    else if 240 ≤ a.toNat ∧ a.toNat < 245 then match l with
      | b :: c :: d :: _ => if (cont b && cont c && cont d) = true ∧ 65536 ≤ 262144 * ((a.toNat : Int) - 240) + 4096 * ((b.toNat : Int) - 128) + 64 * ((c.toNat : Int) - 128) + ((d.toNat : Int) - 128) ∧ 262144 * ((a.toNat : Int) - 240) + 4096 * ((b.toNat : Int) - 128) + 64 * ((c.toNat : Int) - 128) + ((d.toNat : Int) - 128) ≤ 1114111 then some (262144 * ((a.toNat : Int) - 240) + 4096 * ((b.toNat : Int) - 128) + 64 * ((c.toNat : Int) - 128) + ((d.toNat : Int) - 128), 4) else none
      | _ => none
    else none
/-! Bytes -/
theorem byte_lt (a : UInt8) : a.toNat < 256 := a.toNat_lt
theorem and192 : ∀ c : Fin 256, (andI .u8 (c.val : Int) 192 = 128) ↔ (128 ≤ c.val ∧ c.val < 192) := by decide +kernel
theorem and63 : ∀ c : Fin 256, IntKind.wrap .i64 (andI .u8 (c.val : Int) 63) = ((c.val % 64 : Nat) : Int) := by decide +kernel
theorem and31 : ∀ c : Fin 256, IntKind.wrap .i64 (andI .u8 (c.val : Int) 31) = ((c.val % 32 : Nat) : Int) := by decide +kernel
theorem and15 : ∀ c : Fin 256, IntKind.wrap .i64 (andI .u8 (c.val : Int) 15) = ((c.val % 16 : Nat) : Int) := by decide +kernel
theorem and7 : ∀ c : Fin 256, IntKind.wrap .i64 (andI .u8 (c.val : Int) 7) = ((c.val % 8 : Nat) : Int) := by decide +kernel
theorem and192' (b : UInt8) : (andI .u8 (b.toNat : Int) 192 ≠ 128) ↔ cont b = false := by
  have := and192 ⟨b.toNat, byte_lt b⟩
  simp only [ne_eq, this, cont, Bool.and_eq_false_iff, decide_eq_false_iff_not]
  omega
theorem and63' (b : UInt8) : IntKind.wrap .i64 (andI .u8 (b.toNat : Int) 63) = ((b.toNat % 64 : Nat) : Int) := and63 ⟨b.toNat, byte_lt b⟩
theorem or6 {r : Nat} {x : Nat} (hr : r < 1048576) (hx : x < 64) : orI .i64 (shlI .i64 (r : Int) 6) ((x : Nat) : Int) = ((64 * r + x : Nat) : Int) := by
  have h1 : shlI .i64 (r : Int) 6 = ((64 * r : Nat) : Int) := by
    unfold shlI
    rw [show min (6 : Int).toNat IntKind.i64.bits = 6 from rfl, i64w (by omega) (by omega)]
    omega
  rw [h1]
  unfold orI
  have h2 : (BitVec.ofInt IntKind.i64.bits ((64 * r : Nat) : Int) ||| BitVec.ofInt IntKind.i64.bits ((x : Nat) : Int)).toNat = 64 * r + x := by
    rw [BitVec.toNat_or, BitVec.ofInt_natCast, BitVec.ofInt_natCast, BitVec.toNat_ofNat, BitVec.toNat_ofNat, Nat.mod_eq_of_lt (show 64 * r < 2 ^ IntKind.i64.bits by show _ < 2 ^ 64; omega), Nat.mod_eq_of_lt (show x < 2 ^ IntKind.i64.bits by show _ < 2 ^ 64; omega)]
    exact (Nat.two_pow_add_eq_or_of_lt (i := 6) hx r).symm
  rw [h2, i64w (by omega) (by omega)]
def uOf : Option (Int × Nat) → Int × Int × Int
  | some p => (p.1, (p.2 : Int), 0)
  | none => (0, 0, 4)
theorem headF_eq (a : UInt8) : headF (a.toNat : Int) = if a.toNat < 128 then ((a.toNat : Int), 0) else if 194 ≤ a.toNat ∧ a.toNat < 224 then (((a.toNat % 32 : Nat) : Int), 1) else if 224 ≤ a.toNat ∧ a.toNat < 240 then (((a.toNat % 16 : Nat) : Int), 2) else if 240 ≤ a.toNat ∧ a.toNat < 245 then (((a.toNat % 8 : Nat) : Int), 3) else (0, -1) := by
  have hb := byte_lt a
  unfold headF
  rw [show IntKind.wrap .i64 (andI .u8 (a.toNat : Int) 31) = ((a.toNat % 32 : Nat) : Int) from and31 ⟨a.toNat, hb⟩, show IntKind.wrap .i64 (andI .u8 (a.toNat : Int) 15) = ((a.toNat % 16 : Nat) : Int) from and15 ⟨a.toNat, hb⟩, show IntKind.wrap .i64 (andI .u8 (a.toNat : Int) 7) = ((a.toNat % 8 : Nat) : Int) from and7 ⟨a.toNat, hb⟩, i64w (by omega) (by omega)]
  simp only [Bool.and_eq_true, decide_eq_true_eq]
  by_cases h1 : a.toNat < 128
  · rw [if_pos (by omega), if_pos h1]
  · rw [if_neg (by omega), if_neg h1]
    by_cases h2 : 194 ≤ a.toNat ∧ a.toNat < 224
    · rw [if_pos (by omega), if_pos h2]
    · rw [if_neg (by omega), if_neg h2]
      by_cases h3 : 224 ≤ a.toNat ∧ a.toNat < 240
      · rw [if_pos (by omega), if_pos h3]
      · rw [if_neg (by omega), if_neg h3]
        by_cases h4 : 240 ≤ a.toNat ∧ a.toNat < 245
        · rw [if_pos (by omega), if_pos h4]
        · rw [if_neg (by omega), if_neg h4]
theorem mayF_iff2 (r : Int) : mayF r = true ↔ (0 ≤ r ∧ r ≤ 1114111 ∧ ¬ (55296 ≤ r ∧ r ≤ 57343)) := by
  simp only [mayF, Bool.and_eq_true, Bool.or_eq_true, decide_eq_true_eq]; omega
theorem ne_empty {s : ByteArray} {a : UInt8} {l : List UInt8} (h : bys s = a :: l) : s ≠ ⟨#[]⟩ := by
  intro e; subst e; cases h
theorem cont_at {s : ByteArray} {a : UInt8} {l : List UInt8} (h : bys s = a :: l) (i : Nat) {b : UInt8} (hb : l[i]? = some b) : contF s i = (b.toNat : Int) := by
  unfold contF
  rw [h, List.getD_eq_getElem?_getD, List.getElem?_cons_succ, hb]; rfl
theorem ugetF_dec (s : ByteArray) : ugetF s = uOf (dec (bys s)) := by
  have hsz := bsize s
  rcases hs : bys s with _ | ⟨a, l⟩
  · have e : s = ⟨#[]⟩ := bytes_inj (b := ⟨#[]⟩) hs
    rw [e]; rfl
  have hne := ne_empty hs
  have hm : moreF s = (headF (a.toNat : Int)).2 := by rw [moreF, if_pos hne, hs]; rfl
  have hf : firstF s = (headF (a.toNat : Int)).1 := by rw [firstF, if_pos hne, hs]; rfl
  rw [hs] at hsz
  simp only [List.length_cons] at hsz
  have hb := byte_lt a
  rw [headF_eq] at hm hf
  simp only [dec]
  by_cases h1 : a.toNat < 128
  · rw [if_pos h1] at hm hf
    rw [if_pos h1, ugetF, if_neg (by rw [hm]; simp only [Bool.or_eq_true, decide_eq_true_eq]; omega), hm, hf]
    simp only [Int.toNat_zero, tailF]
    rw [if_pos (by rw [Bool.and_eq_true, mayF_iff2, decide_eq_true_eq, sizeF, if_pos (by omega)]; omega)]
    rfl
  rw [if_neg h1] at hm hf; rw [if_neg h1]
  by_cases h2 : 194 ≤ a.toNat ∧ a.toNat < 224
  · rw [if_pos h2] at hm hf; rw [if_pos h2]
    rcases l with _ | ⟨b, l⟩
    · rw [ugetF, if_pos (by rw [hm]; simp only [Bool.or_eq_true, decide_eq_true_eq]; simp only [List.length_nil, List.length_cons] at hsz; omega)]; rfl
    · simp only [List.length_cons] at hsz
      rw [ugetF, if_neg (by rw [hm]; simp only [Bool.or_eq_true, decide_eq_true_eq]; omega), hm, hf]
      simp only [show (1 : Int).toNat = 1 from rfl, tailF, cont_at hs 0 (b := b) rfl, and192', and63']
      by_cases hc : cont b = true
      · have hc' := hc
        simp only [cont, Bool.and_eq_true, decide_eq_true_eq] at hc'
        rw [if_neg (by rw [hc]; simp), if_pos hc, or6 (by omega) (by omega)]
        simp only []
        rw [if_pos (by rw [Bool.and_eq_true, mayF_iff2, decide_eq_true_eq, sizeF, if_neg (by omega), if_pos (by omega)]; omega)]
        simp only [uOf]
        congr 1
        · omega
      · rw [if_pos (by simpa using hc), if_neg hc]; rfl
  rw [if_neg h2] at hm hf; rw [if_neg h2]
  by_cases h3 : 224 ≤ a.toNat ∧ a.toNat < 240
  · rw [if_pos h3] at hm hf; rw [if_pos h3]
    rcases l with _ | ⟨b, _ | ⟨c, l⟩⟩
    · rw [ugetF, if_pos (by rw [hm]; simp only [Bool.or_eq_true, decide_eq_true_eq]; simp only [List.length_nil, List.length_cons] at hsz; omega)]; rfl
    · rw [ugetF, if_pos (by rw [hm]; simp only [Bool.or_eq_true, decide_eq_true_eq]; simp only [List.length_nil, List.length_cons] at hsz; omega)]; rfl
    · simp only [List.length_cons] at hsz
      rw [ugetF, if_neg (by rw [hm]; simp only [Bool.or_eq_true, decide_eq_true_eq]; omega), hm, hf]
      simp only [show (2 : Int).toNat = 2 from rfl, tailF, cont_at hs 0 (b := b) rfl, cont_at hs 1 (b := c) rfl, and192', and63']
      by_cases hc : cont b = true
      · by_cases hd : cont c = true
        · have hc' := hc
          have hd' := hd
          simp only [cont, Bool.and_eq_true, decide_eq_true_eq] at hc' hd'
          rw [if_neg (by rw [hc]; simp), if_neg (by rw [hd]; simp), or6 (by omega) (by omega), or6 (by omega) (by omega)]
          simp only [hc, hd, Bool.and_self, true_and]
          have hr : ((64 * (64 * (a.toNat % 16) + b.toNat % 64) + c.toNat % 64 : Nat) : Int) = 4096 * ((a.toNat : Int) - 224) + 64 * ((b.toNat : Int) - 128) + ((c.toNat : Int) - 128) := by omega
          rw [hr]
          by_cases hg : 2048 ≤ 4096 * ((a.toNat : Int) - 224) + 64 * ((b.toNat : Int) - 128) + ((c.toNat : Int) - 128) ∧ ¬ (55296 ≤ 4096 * ((a.toNat : Int) - 224) + 64 * ((b.toNat : Int) - 128) + ((c.toNat : Int) - 128) ∧ 4096 * ((a.toNat : Int) - 224) + 64 * ((b.toNat : Int) - 128) + ((c.toNat : Int) - 128) ≤ 57343)
          · rw [if_pos (by rw [Bool.and_eq_true, mayF_iff2, decide_eq_true_eq, sizeF, if_neg (by omega), if_neg (by omega), if_pos (by omega)]; omega), if_pos hg]; rfl
          · rw [if_neg ?_, if_neg hg]
            · rfl
            · rw [Bool.and_eq_true, mayF_iff2, decide_eq_true_eq, sizeF]
              intro ⟨k1, k2⟩
              split at k2
              · omega
              · split at k2
                · omega
                · omega
        · rw [if_neg (by rw [hc]; simp), if_pos (by simpa using hd), if_neg (by simp [hd])]; rfl
      · rw [if_pos (by simpa using hc), if_neg (by simp [hc])]; rfl
  rw [if_neg h3] at hm hf; rw [if_neg h3]
  by_cases h4 : 240 ≤ a.toNat ∧ a.toNat < 245
  · rw [if_pos h4] at hm hf; rw [if_pos h4]
    rcases l with _ | ⟨b, _ | ⟨c, _ | ⟨d, l⟩⟩⟩
    · rw [ugetF, if_pos (by rw [hm]; simp only [Bool.or_eq_true, decide_eq_true_eq]; simp only [List.length_nil, List.length_cons] at hsz; omega)]; rfl
    · rw [ugetF, if_pos (by rw [hm]; simp only [Bool.or_eq_true, decide_eq_true_eq]; simp only [List.length_nil, List.length_cons] at hsz; omega)]; rfl
    · rw [ugetF, if_pos (by rw [hm]; simp only [Bool.or_eq_true, decide_eq_true_eq]; simp only [List.length_nil, List.length_cons] at hsz; omega)]; rfl
    · simp only [List.length_cons] at hsz
      rw [ugetF, if_neg (by rw [hm]; simp only [Bool.or_eq_true, decide_eq_true_eq]; omega), hm, hf]
      simp only [show (3 : Int).toNat = 3 from rfl, tailF, cont_at hs 0 (b := b) rfl, cont_at hs 1 (b := c) rfl, cont_at hs 2 (b := d) rfl, and192', and63']
      by_cases hc : cont b = true
      · by_cases hd : cont c = true
        · by_cases he : cont d = true
          · have hc' := hc
            have hd' := hd
            have he' := he
            simp only [cont, Bool.and_eq_true, decide_eq_true_eq] at hc' hd' he'
            rw [if_neg (by rw [hc]; simp), if_neg (by rw [hd]; simp), if_neg (by rw [he]; simp), or6 (by omega) (by omega), or6 (by omega) (by omega), or6 (by omega) (by omega)]
            simp only [hc, hd, he, Bool.and_self, true_and]
            have hr : ((64 * (64 * (64 * (a.toNat % 8) + b.toNat % 64) + c.toNat % 64) + d.toNat % 64 : Nat) : Int) = 262144 * ((a.toNat : Int) - 240) + 4096 * ((b.toNat : Int) - 128) + 64 * ((c.toNat : Int) - 128) + ((d.toNat : Int) - 128) := by omega
            rw [hr]
            by_cases hg : 65536 ≤ 262144 * ((a.toNat : Int) - 240) + 4096 * ((b.toNat : Int) - 128) + 64 * ((c.toNat : Int) - 128) + ((d.toNat : Int) - 128) ∧ 262144 * ((a.toNat : Int) - 240) + 4096 * ((b.toNat : Int) - 128) + 64 * ((c.toNat : Int) - 128) + ((d.toNat : Int) - 128) ≤ 1114111
            · rw [if_pos (by rw [Bool.and_eq_true, mayF_iff2, decide_eq_true_eq, sizeF, if_neg (by omega), if_neg (by omega), if_neg (by omega)]; omega), if_pos hg]; rfl
            · rw [if_neg ?_, if_neg hg]
              · rfl
              · rw [Bool.and_eq_true, mayF_iff2, decide_eq_true_eq, sizeF]
                intro ⟨k1, k2⟩
                split at k2
                · omega
                · split at k2
                  · omega
                  · split at k2
                    · omega
                    · omega
          · rw [if_neg (by rw [hc]; simp), if_neg (by rw [hd]; simp), if_pos (by simpa using he), if_neg (by simp [he])]; rfl
        · rw [if_neg (by rw [hc]; simp), if_pos (by simpa using hd), if_neg (by simp [hd])]; rfl
      · rw [if_pos (by simpa using hc), if_neg (by simp [hc])]; rfl
  rw [if_neg h4] at hm hf; rw [if_neg h4]
  rw [ugetF, if_pos (by rw [hm]; simp)]; rfl
end Go.AM.Tryd
end
section
set_option linter.unusedVariables false
set_option linter.unusedSimpArgs false
set_option maxRecDepth 100000
namespace Go.AM.Tryd
open Go Go.AM Go.AM.D
theorem bys_push (r : ByteArray) (b : UInt8) : bys (r.push b) = bys r ++ [b] := by
  simp [bys, ByteArray.push]
theorem bys_ofInts_aux : ∀ (ns : List Int) (r : ByteArray), bys (ns.foldl (fun r n => r.push (UInt8.ofNat n.toNat)) r) = bys r ++ ns.map fun n => UInt8.ofNat n.toNat
  | [], r => by simp
  | n :: ns, r => by rw [List.foldl_cons, bys_ofInts_aux ns, bys_push]; simp
theorem bys_ofInts (ns : List Int) : bys (ofInts ns) = ns.map fun n => UInt8.ofNat n.toNat := by
  rw [ofInts, bys_ofInts_aux]; rfl
theorem bys_extract (s : ByteArray) (i j : Nat) : bys (s.extract i j) = ((bys s).take j).drop i := by
  simp only [bys, ByteArray.data_extract, Array.toList_extract, List.extract_eq_take_drop]
  rw [List.drop_take]
theorem put_eq (ns : List Int) (s : ByteArray) (n : Nat) : (ofInts ns = s.extract 0 n) ↔ (ns.map fun n => UInt8.ofNat n.toNat) = (bys s).take n := by
  rw [beq_iff, bys_ofInts, bys_extract, List.drop_zero]
theorem ofN {x : Int} {a : UInt8} (h0 : 0 ≤ x) (h1 : x < 256) : (UInt8.ofNat x.toNat = a) ↔ x = (a.toNat : Int) := by
  have hb := byte_lt a
  constructor
  · intro h; rw [← h, UInt8.toNat_ofNat']; omega
  · intro h
    apply UInt8.toNat_inj.1
    rw [UInt8.toNat_ofNat']; omega
theorem u8_eq {x : Int} (h0 : 0 ≤ x) (h1 : x < 256) : u8 x = x := by
  unfold u8 IntKind.wrap
  simp [IntKind.bits, IntKind.signed]
  omega
def C (n : Nat) (s : ByteArray) : Bool := mayF (getR n s) && decide (ofInts (putI (getR n s)) = s.extract 0 n)
theorem C_iff (n : Nat) (s : ByteArray) : C n s = true ↔ (mayF (getR n s) = true ∧ ((putI (getR n s)).map fun n => UInt8.ofNat n.toNat) = (bys s).take n) := by
  rw [C, Bool.and_eq_true, decide_eq_true_eq, put_eq]
theorem C1 {s : ByteArray} {a : UInt8} {l : List UInt8} (h : bys s = a :: l) : (C 1 s = true ↔ a.toNat < 128) ∧ getR 1 s = (a.toNat : Int) := by
  have hb := byte_lt a
  have hr : getR 1 s = (a.toNat : Int) := by rw [getR, h]; simp [gacc, gstep]
  refine ⟨?_, hr⟩
  rw [C_iff, hr, h, mayF_iff2, putI]
  by_cases h1 : (a.toNat : Int) ≤ 127
  · rw [if_pos h1, u8_eq (by omega) (by omega)]
    simp only [List.map_cons, List.map_nil, List.take_succ_cons, List.take_zero, List.cons.injEq, and_true, ofN (by omega : (0 : Int) ≤ a.toNat) (by omega)]
    omega
  · rw [if_neg h1, if_pos (by omega)]
    simp; omega
theorem C2 {s : ByteArray} {a b : UInt8} {l : List UInt8} (h : bys s = a :: b :: l) : (C 2 s = true ↔ (194 ≤ a.toNat ∧ a.toNat < 224) ∧ cont b = true) ∧ getR 2 s = ((64 * (a.toNat % 32) + b.toNat % 64 : Nat) : Int) := by
  have hb := byte_lt a
  have hb2 := byte_lt b
  have hr : getR 2 s = ((64 * (a.toNat % 32) + b.toNat % 64 : Nat) : Int) := by
    rw [getR, h]; simp only [List.take_succ_cons, List.take_zero, gacc, gstep, tabF]; simp
  refine ⟨?_, hr⟩
  rw [C_iff, hr, h, mayF_iff2, putI]
  simp only [cont, Bool.and_eq_true, decide_eq_true_eq]
  generalize hq : 64 * (a.toNat % 32) + b.toNat % 64 = q
  by_cases h1 : (q : Int) ≤ 127
  · rw [if_pos h1]
    simp only [List.map_cons, List.map_nil, List.take_succ_cons, List.take_zero, List.cons.injEq, reduceCtorEq, and_false, false_iff]
    omega
  · rw [if_neg h1, if_pos (by omega), u8_eq (by omega) (by omega), u8_eq (by omega) (by omega)]
    simp only [List.map_cons, List.map_nil, List.take_succ_cons, List.take_zero, List.cons.injEq, and_true, ofN (show (0 : Int) ≤ 192 + (q : Int) / 64 by omega) (by omega), ofN (show (0 : Int) ≤ 128 + (q : Int) % 64 by omega) (by omega)]
    omega
theorem C3 {s : ByteArray} {a b c : UInt8} {l : List UInt8} (h : bys s = a :: b :: c :: l) : (C 3 s = true ↔ (224 ≤ a.toNat ∧ a.toNat < 240) ∧ (cont b && cont c) = true ∧ 2048 ≤ 4096 * ((a.toNat : Int) - 224) + 64 * ((b.toNat : Int) - 128) + ((c.toNat : Int) - 128) ∧ ¬ (55296 ≤ 4096 * ((a.toNat : Int) - 224) + 64 * ((b.toNat : Int) - 128) + ((c.toNat : Int) - 128) ∧ 4096 * ((a.toNat : Int) - 224) + 64 * ((b.toNat : Int) - 128) + ((c.toNat : Int) - 128) ≤ 57343)) ∧ getR 3 s = ((4096 * (a.toNat % 16) + 64 * (b.toNat % 64) + c.toNat % 64 : Nat) : Int) := by
  have hb := byte_lt a
  have hb2 := byte_lt b
  have hb3 := byte_lt c
  have hr : getR 3 s = ((4096 * (a.toNat % 16) + 64 * (b.toNat % 64) + c.toNat % 64 : Nat) : Int) := by
    rw [getR, h]; simp only [List.take_succ_cons, List.take_zero, gacc, gstep, tabF]; simp; omega
  refine ⟨?_, hr⟩
  rw [C_iff, hr, h, mayF_iff2, putI]
  simp only [cont, Bool.and_eq_true, decide_eq_true_eq]
  generalize hq : 4096 * (a.toNat % 16) + 64 * (b.toNat % 64) + c.toNat % 64 = q
  by_cases h1 : (q : Int) ≤ 127
  · rw [if_pos h1]
    simp only [List.map_cons, List.map_nil, List.take_succ_cons, List.take_zero, List.cons.injEq, reduceCtorEq, and_false, false_iff]
    omega
  · by_cases h2 : (q : Int) ≤ 2047
    · rw [if_neg h1, if_pos h2]
      simp only [List.map_cons, List.map_nil, List.take_succ_cons, List.take_zero, List.cons.injEq, reduceCtorEq, and_false, false_iff]
      omega
    · rw [if_neg h1, if_neg h2, if_pos (by omega), u8_eq (by omega) (by omega), u8_eq (by omega) (by omega), u8_eq (by omega) (by omega)]
      simp only [List.map_cons, List.map_nil, List.take_succ_cons, List.take_zero, List.cons.injEq, and_true, ofN (show (0 : Int) ≤ 224 + (q : Int) / 4096 by omega) (by omega), ofN (show (0 : Int) ≤ 128 + (q : Int) / 64 % 64 by omega) (by omega), ofN (show (0 : Int) ≤ 128 + (q : Int) % 64 by omega) (by omega)]
      omega
theorem C4 {s : ByteArray} {a b c d : UInt8} {l : List UInt8} (h : bys s = a :: b :: c :: d :: l) : (C 4 s = true ↔ (240 ≤ a.toNat ∧ a.toNat < 245) ∧ (cont b && cont c && cont d) = true ∧ 65536 ≤ 262144 * ((a.toNat : Int) - 240) + 4096 * ((b.toNat : Int) - 128) + 64 * ((c.toNat : Int) - 128) + ((d.toNat : Int) - 128) ∧ 262144 * ((a.toNat : Int) - 240) + 4096 * ((b.toNat : Int) - 128) + 64 * ((c.toNat : Int) - 128) + ((d.toNat : Int) - 128) ≤ 1114111) ∧ getR 4 s = ((262144 * (a.toNat % 8) + 4096 * (b.toNat % 64) + 64 * (c.toNat % 64) + d.toNat % 64 : Nat) : Int) := by
  have hb := byte_lt a
  have hb2 := byte_lt b
  have hb3 := byte_lt c
  have hb4 := byte_lt d
  have hr : getR 4 s = ((262144 * (a.toNat % 8) + 4096 * (b.toNat % 64) + 64 * (c.toNat % 64) + d.toNat % 64 : Nat) : Int) := by
    rw [getR, h]; simp only [List.take_succ_cons, List.take_zero, gacc, gstep, tabF]; simp; omega
  refine ⟨?_, hr⟩
  rw [C_iff, hr, h, mayF_iff2, putI]
  simp only [cont, Bool.and_eq_true, decide_eq_true_eq]
  generalize hq : 262144 * (a.toNat % 8) + 4096 * (b.toNat % 64) + 64 * (c.toNat % 64) + d.toNat % 64 = q
  by_cases h1 : (q : Int) ≤ 127
  · rw [if_pos h1]
    simp only [List.map_cons, List.map_nil, List.take_succ_cons, List.take_zero, List.cons.injEq, reduceCtorEq, and_false, false_iff]
    omega
  · by_cases h2 : (q : Int) ≤ 2047
    · rw [if_neg h1, if_pos h2]
      simp only [List.map_cons, List.map_nil, List.take_succ_cons, List.take_zero, List.cons.injEq, reduceCtorEq, and_false, false_iff]
      omega
    · by_cases h3 : (q : Int) ≤ 65535
      · rw [if_neg h1, if_neg h2, if_pos h3]
        simp only [List.map_cons, List.map_nil, List.take_succ_cons, List.take_zero, List.cons.injEq, reduceCtorEq, and_false, false_iff]
        omega
      · rw [if_neg h1, if_neg h2, if_neg h3, u8_eq (by omega) (by omega), u8_eq (by omega) (by omega), u8_eq (by omega) (by omega), u8_eq (by omega) (by omega)]
        simp only [List.map_cons, List.map_nil, List.take_succ_cons, List.take_zero, List.cons.injEq, and_true, ofN (show (0 : Int) ≤ 240 + (q : Int) / 262144 by omega) (by omega), ofN (show (0 : Int) ≤ 128 + (q : Int) / 4096 % 64 by omega) (by omega), ofN (show (0 : Int) ≤ 128 + (q : Int) / 64 % 64 by omega) (by omega), ofN (show (0 : Int) ≤ 128 + (q : Int) % 64 by omega) (by omega)]
        omega
def gOf : Option (Int × Nat) → Int × Nat
  | some p => p
  | none => (0, 0)
theorem getFrom_step (f n : Nat) (s : ByteArray) : getFrom (f + 1) n s = if n ≤ 4 ∧ n ≤ s.size then if C n s = true then (getR n s, n) else getFrom f (n + 1) s else (0, 0) := by
  rw [getFrom, C]
  by_cases h : n ≤ 4 ∧ n ≤ s.size
  · rw [if_pos h, if_pos (by rw [Bool.and_eq_true, decide_eq_true_eq, decide_eq_true_eq]; omega)]
  · rw [if_neg h, if_neg (by rw [Bool.and_eq_true, decide_eq_true_eq, decide_eq_true_eq]; omega)]
theorem getF_dec (s : ByteArray) : getF s = gOf (dec (bys s)) := by
  have hsz := bsize s
  rw [getF]
  rcases hs : bys s with _ | ⟨a, l⟩
  · rw [hs] at hsz
    rw [getFrom_step, if_neg (by simp only [List.length_nil] at hsz; omega)]; rfl
  have hb := byte_lt a
  obtain ⟨i1, r1⟩ := C1 hs
  rw [getFrom_step, if_pos (by rw [hs] at hsz; simp only [List.length_cons] at hsz; omega)]
  simp only [dec]
  by_cases h1 : a.toNat < 128
  · rw [if_pos (i1.2 h1), if_pos h1, r1]; rfl
  rw [if_neg (fun h => h1 (i1.1 h)), if_neg h1, getFrom_step]
  rcases l with _ | ⟨b, l⟩
  · rw [if_neg (by rw [hs] at hsz; simp only [List.length_cons, List.length_nil] at hsz; omega)]
    split
    · rfl
    · split
      · rfl
      · split <;> rfl
  rw [if_pos (by rw [hs] at hsz; simp only [List.length_cons] at hsz; omega)]
  obtain ⟨i2, r2⟩ := C2 hs
  by_cases h2 : 194 ≤ a.toNat ∧ a.toNat < 224
  · rw [if_pos h2]
    by_cases hc : cont b = true
    · have hc' := hc
      simp only [cont, Bool.and_eq_true, decide_eq_true_eq] at hc'
      rw [if_pos (i2.2 ⟨h2, hc⟩), r2]
      simp only []
      rw [if_pos hc]
      simp only [gOf, Prod.mk.injEq, and_true]
      omega
    · rw [if_neg (fun h => hc (i2.1 h).2)]
      simp only []
      rw [if_neg hc, getFrom_step]
      split
      · rename_i h3
        rcases l with _ | ⟨c, l⟩
        · rw [hs] at hsz; simp only [List.length_cons, List.length_nil] at hsz; omega
        rw [if_neg (fun h => by have := ((C3 hs).1.1 h).1; omega), getFrom_step]
        split
        · rename_i h4
          rcases l with _ | ⟨d, l⟩
          · rw [hs] at hsz; simp only [List.length_cons, List.length_nil] at hsz; omega
          rw [if_neg (fun h => by have := ((C4 hs).1.1 h).1; omega)]; rfl
        · rfl
      · rfl
  rw [if_neg (fun h => h2 (i2.1 h).1), if_neg h2, getFrom_step]
  rcases l with _ | ⟨c, l⟩
  · rw [if_neg (by rw [hs] at hsz; simp only [List.length_cons, List.length_nil] at hsz; omega)]
    split
    · rfl
    · split <;> rfl
  rw [if_pos (by rw [hs] at hsz; simp only [List.length_cons] at hsz; omega)]
  obtain ⟨i3, r3⟩ := C3 hs
  by_cases h3 : 224 ≤ a.toNat ∧ a.toNat < 240
  · rw [if_pos h3]
    simp only []
    split
    · rename_i hg0
      have hg := (i3.1 hg0).2
      rw [if_pos hg, r3]
      have hc' := hg.1
      simp only [cont, Bool.and_eq_true, decide_eq_true_eq] at hc'
      simp only [gOf, Prod.mk.injEq, and_true]
      omega
    · rename_i hg
      rw [if_neg (fun h => hg (i3.2 ⟨h3, h⟩)), getFrom_step]
      split
      · rcases l with _ | ⟨d, l⟩
        · rw [hs] at hsz; simp only [List.length_cons, List.length_nil] at hsz; omega
        rw [if_neg (fun h => by have := ((C4 hs).1.1 h).1; omega)]; rfl
      · rfl
  rw [if_neg (fun h => h3 (i3.1 h).1), if_neg h3, getFrom_step]
  rcases l with _ | ⟨d, l⟩
  · rw [if_neg (by rw [hs] at hsz; simp only [List.length_cons, List.length_nil] at hsz; omega)]
    split <;> rfl
  rw [if_pos (by rw [hs] at hsz; simp only [List.length_cons] at hsz; omega)]
  obtain ⟨i4, r4⟩ := C4 hs
  by_cases h4 : 240 ≤ a.toNat ∧ a.toNat < 245
  · rw [if_pos h4]
    simp only []
    split
    · rename_i hg0
      have hg := (i4.1 hg0).2
      rw [if_pos hg, r4]
      have hc' := hg.1
      simp only [cont, Bool.and_eq_true, decide_eq_true_eq] at hc'
      simp only [gOf, Prod.mk.injEq, and_true]
      omega
    · rename_i hg
      rw [if_neg (fun h => hg (i4.2 ⟨h4, h⟩))]; rfl
  rw [if_neg (fun h => h4 (i4.1 h).1), if_neg h4]; rfl
theorem dec_take (l : List UInt8) : dec (l.take 4) = dec l := by
  rcases l with _ | ⟨a, _ | ⟨b, _ | ⟨c, _ | ⟨d, l⟩⟩⟩⟩ <;> rfl
theorem dec_pos {l : List UInt8} {p : Int × Nat} (h : dec l = some p) : 1 ≤ p.2 ∧ p.2 ≤ l.length ∧ (p.2 : Int) = sizeF p.1 ∧ mayF p.1 = true := by
  rcases l with _ | ⟨a, l⟩
  · cases h
  have hb := byte_lt a
  simp only [dec] at h
  split at h
  · injection h with h; subst h
    rw [mayF_iff2, sizeF, if_pos (by simp only []; omega)]; simp only [List.length_cons]; omega
  · split at h
    · rcases l with _ | ⟨b, l⟩
      · cases h
      simp only [] at h
      split at h
      · rename_i hc
        simp only [cont, Bool.and_eq_true, decide_eq_true_eq] at hc
        injection h with h; subst h
        rw [mayF_iff2, sizeF, if_neg (by simp only []; omega), if_pos (by simp only []; omega)]; simp only [List.length_cons]; omega
      · cases h
    · split at h
      · rcases l with _ | ⟨b, _ | ⟨c, l⟩⟩
        · cases h
        · cases h
        simp only [] at h
        split at h
        · rename_i hc
          simp only [cont, Bool.and_eq_true, decide_eq_true_eq] at hc
          injection h with h; subst h
          rw [mayF_iff2, sizeF, if_neg (by simp only []; omega), if_neg (by simp only []; omega), if_pos (by simp only []; omega)]; simp only [List.length_cons]; omega
        · cases h
      · split at h
        · rcases l with _ | ⟨b, _ | ⟨c, _ | ⟨d, l⟩⟩⟩
          · cases h
          · cases h
          · cases h
          simp only [] at h
          split at h
          · rename_i hc
            simp only [cont, Bool.and_eq_true, decide_eq_true_eq] at hc
            injection h with h; subst h
            rw [mayF_iff2, sizeF, if_neg (by simp only []; omega), if_neg (by simp only []; omega), if_neg (by simp only []; omega)]; simp only [List.length_cons]; omega
          · cases h
        · cases h
end Go.AM.Tryd
end
section
set_option linter.unusedVariables false
set_option linter.unusedSimpArgs false
set_option maxRecDepth 100000
namespace Go.AM.Tryd
open Go Go.AM Go.AM.D
theorem getF_at (s : ByteArray) (k : Nat) (h : k ≤ s.size) : getF (s.extract k (min s.size (k + 4))) = gOf (dec ((bys s).drop k)) := by
  rw [getF_dec, bys_extract]
  congr 1
  have hsz := bsize s
  rw [← dec_take ((bys s).drop k)]
  congr 1
  rcases Nat.le_total s.size (k + 4) with c | c
  · rw [Nat.min_eq_left c, List.take_of_length_le (by omega), List.take_of_length_le (by rw [List.length_drop]; omega)]
  · rw [Nat.min_eq_right c, List.drop_take, Nat.add_sub_cancel_left]
theorem ugetF_at (s : ByteArray) (k : Nat) : ugetF (s.extract k s.size) = uOf (dec ((bys s).drop k)) := by
  rw [ugetF_dec, bys_extract, List.take_of_length_le (by rw [bsize]; exact Nat.le_refl _)]
def eU (k : Nat) (l : List (Nat × Int)) : Int := match l.getLast? with
  | none => k
  | some p => (p.1 : Int) + sizeF p.2
theorem runes_end (s : ByteArray) : ∀ (n k : Nat) (acc : List Rune), s.size - k ≤ n → k ≤ s.size → (((runesG s k acc).2 : Nat) : Int) = eU k (urunes s k) := by
  intro n
  induction n with
  | zero =>
    intro k acc hn hk
    rw [runesG_end (by omega), urunes_end (by omega)]; rfl
  | succ n ih =>
    intro k acc hn hk
    by_cases hks : k < s.size
    · have hg := getF_at s k hk
      have hu := ugetF_at s k
      cases hd : dec ((bys s).drop k) with
      | none =>
        rw [hd] at hg hu
        rw [runesG_stop hks (by rw [hg]; rfl), urunes_bad (by rw [hu]; simp [uOf])]; rfl
      | some p =>
        rw [hd] at hg hu
        have hp := dec_pos hd
        rw [List.length_drop, bsize] at hp
        have e1 : (getF (s.extract k (min s.size (k + 4)))).2 = p.2 := by rw [hg]; rfl
        have e2 : (ugetF (s.extract k s.size)).1 = p.1 := by rw [hu]; rfl
        have e3 : (ugetF (s.extract k s.size)).2.1.toNat = p.2 := by rw [hu]; simp [uOf]
        rw [runesG_step hks (by omega), urunes_step hks (by rw [hu]; rfl), e1, e2, e3, ih (k + p.2) _ (by omega) (by omega)]
        unfold eU
        rw [List.getLast?_cons]
        cases hq : (urunes s (k + p.2)).getLast? with
        | none => simp only [Option.getD_none]; omega
        | some q => rfl
    · rw [runesG_end hks, urunes_end hks]; rfl
theorem endN_eU (l : List (Nat × Int)) : endN l l.length = eU 0 l := by
  unfold eU
  rcases Nat.eq_zero_or_pos l.length with h | h
  · have := List.eq_nil_of_length_eq_zero h
    subst this; rfl
  · obtain ⟨n, hn⟩ : ∃ n, l.length = n + 1 := ⟨l.length - 1, by omega⟩
    rw [hn, endN, List.getLast?_eq_getElem?, hn, Nat.add_sub_cancel]
    cases hq : l[n]? with
    | none => rw [List.getElem?_eq_none_iff] at hq; omega
    | some p => rfl
theorem valid_eq (s : ByteArray) : validU s = validR s := by
  rw [validU, validR, endN_eU, runes_end s s.size 0 [] (by omega) (by omega)]
theorem val_eq (s : ByteArray) : valU s = valR s := by rw [valU, valR, valid_eq]
theorem bad_low : ∀ c : Fin 128, badR ((c.val : Nat) : Int) = iriB ((c.val : Nat) : Int) := by decide +kernel
theorem iri_high (b : UInt8) (h : 128 ≤ b.toNat) : iriB (b.toNat : Int) = false := by
  have hall : ∀ c : Fin 256, 128 ≤ c.val → iriB ((c.val : Nat) : Int) = false := by decide +kernel
  exact hall ⟨b.toNat, byte_lt b⟩ h
theorem bad_high {r : Int} (h : 128 ≤ r) : badR r = false := by
  simp only [badR, Bool.or_eq_false_iff, Bool.and_eq_false_iff, decide_eq_false_iff_not]; omega
theorem iriL_high {b : UInt8} {l : List UInt8} (h : cont b = true) : iriL (b :: l) = iriL l := by
  simp only [cont, Bool.and_eq_true, decide_eq_true_eq] at h
  rw [iriL, iri_high b h.1, if_neg (by simp)]
theorem iri_dec {l : List UInt8} {p : Int × Nat} (h : dec l = some p) : iriL l = if badR p.1 = true then false else iriL (l.drop p.2) := by
  rcases l with _ | ⟨a, l⟩
  · cases h
  have hb := byte_lt a
  simp only [dec] at h
  split at h
  · rename_i h1
    injection h with h; subst h
    rw [iriL, show badR (a.toNat : Int) = iriB (a.toNat : Int) from bad_low ⟨a.toNat, h1⟩]; rfl
  · rename_i h1
    have ha : iriL (a :: l) = iriL l := by rw [iriL, iri_high a (by omega), if_neg (by simp)]
    split at h
    · rcases l with _ | ⟨b, l⟩
      · cases h
      simp only [] at h
      split at h
      · rename_i hc
        have hc' := hc
        simp only [cont, Bool.and_eq_true, decide_eq_true_eq] at hc'
        injection h with h; subst h
        rw [ha, iriL_high hc, bad_high (by simp only []; omega), if_neg (by simp)]; rfl
      · cases h
    · split at h
      · rcases l with _ | ⟨b, _ | ⟨c, l⟩⟩
        · cases h
        · cases h
        simp only [] at h
        split at h
        · rename_i hc
          have hc1 := hc.1
          rw [Bool.and_eq_true] at hc1
          injection h with h; subst h
          rw [ha, iriL_high hc1.1, iriL_high hc1.2, bad_high (by simp only []; omega), if_neg (by simp)]; rfl
        · cases h
      · split at h
        · rcases l with _ | ⟨b, _ | ⟨c, _ | ⟨d, l⟩⟩⟩
          · cases h
          · cases h
          · cases h
          simp only [] at h
          split at h
          · rename_i hc
            have hc1 := hc.1
            rw [Bool.and_eq_true, Bool.and_eq_true] at hc1
            injection h with h; subst h
            rw [ha, iriL_high hc1.1.1, iriL_high hc1.1.2, iriL_high hc1.2, bad_high (by simp only []; omega), if_neg (by simp)]; rfl
          · cases h
        · cases h
theorem iri_runes (s : ByteArray) : ∀ (n k : Nat), s.size - k ≤ n → k ≤ s.size → (runesG s k []).2 = s.size → iriUL (urunes s k) = iriL ((bys s).drop k) := by
  have hsz := bsize s
  intro n
  induction n with
  | zero =>
    intro k hn hk _
    rw [urunes_end (by omega), List.drop_of_length_le (by omega)]; rfl
  | succ n ih =>
    intro k hn hk hv
    by_cases hks : k < s.size
    · have hg := getF_at s k hk
      have hu := ugetF_at s k
      cases hd : dec ((bys s).drop k) with
      | none =>
        rw [hd] at hg
        rw [runesG_stop hks (by rw [hg]; rfl)] at hv
        simp only [] at hv; omega
      | some p =>
        rw [hd] at hg hu
        have hp := dec_pos hd
        rw [List.length_drop, bsize] at hp
        have e1 : (getF (s.extract k (min s.size (k + 4)))).2 = p.2 := by rw [hg]; rfl
        have e2 : (ugetF (s.extract k s.size)).1 = p.1 := by rw [hu]; rfl
        have e3 : (ugetF (s.extract k s.size)).2.1.toNat = p.2 := by rw [hu]; simp [uOf]
        have h2 := runes_end s n (k + p.2) [] (by omega) (by omega)
        rw [runesG_step hks (by omega), e1] at hv
        have h3 := runes_end s n (k + p.2) ([] ++ [⟨k, (getF (s.extract k (min s.size (k + 4)))).1⟩]) (by omega) (by omega)
        rw [urunes_step hks (by rw [hu]; rfl), e2, e3, iriUL, iri_dec hd, List.drop_drop]
        simp only []
        rw [ih (k + p.2) (by omega) (by omega) (by omega)]
    · rw [urunes_end hks, List.drop_of_length_le (by omega)]; rfl
theorem iri_eq (s : ByteArray) : iriU s = iriR s := by
  rw [iriU, iriR, valid_eq]
  split
  · rfl
  · rename_i h
    simp only [Bool.or_eq_true, not_or, Bool.not_eq_true', Bool.not_eq_false] at h
    have hv := h.2
    rw [validR, decide_eq_true_eq] at hv
    have := iri_runes s s.size 0 (by omega) (by omega) (by omega)
    rw [this]; rfl
theorem blankB_pos (c : Int) {i : Int} (h : i ≠ 0) : blankB i c = (!letterF c && !digitF c) := by
  simp [blankB, h]
theorem blankL_pos : ∀ (l : List UInt8) (i : Int), 0 < i → blankL i l = wordL l
  | [], i, _ => rfl
  | x :: l, i, h => by
    rw [blankL, wordL, blankB_pos _ (by omega), blankL_pos l (i + 1) (by omega)]
theorem blank_eq (s : ByteArray) : blankF s = wordF s 64 := by
  have hsz := bsize s
  rw [blankF, wordF]
  rcases hs : bys s with _ | ⟨x, l⟩
  · rw [hs] at hsz
    simp only [List.length_nil] at hsz
    have h1 : decide ((s.size : Int) ≥ 1) = false := decide_eq_false (by omega)
    have h2 : decide ((s.size : Int) < 1) = true := decide_eq_true (by omega)
    simp [h1, h2]
  · rw [hs] at hsz
    simp only [List.length_cons] at hsz
    have h1 : decide ((s.size : Int) ≥ 1) = true := decide_eq_true (by omega)
    have h2 : decide ((s.size : Int) < 1) = false := decide_eq_false (by omega)
    have h3 : decide ((s.size : Int) > 64) = !decide ((s.size : Int) ≤ 64) := by
      by_cases h : (s.size : Int) ≤ 64
      · simp [h]
      · simp [h]; omega
    rw [blankL, wordL, blankL_pos l (0 + 1) (by omega), h1, h2, h3, show head8 (x :: l) = x from rfl]
    simp only [blankB, decide_true, Bool.true_or, Bool.and_true, Bool.false_or]
    cases letterF (x.toNat : Int) <;> cases decide ((s.size : Int) ≤ 64) <;> simp
theorem nameB_eq (i c : Int) : nameB i c = blankB i c := by
  have e : ((decide (c < 65) || decide (c > 90)) && (decide (c < 97) || decide (c > 122))) = !letterF c := by
    rw [Bool.eq_iff_iff]
    simp only [letterF, Bool.and_eq_true, Bool.or_eq_true, decide_eq_true_eq, Bool.not_eq_true', Bool.or_eq_false_iff, Bool.and_eq_false_iff, decide_eq_false_iff_not]; omega
  have e2 : ((decide (i = 0) || decide (c < 48)) || decide (c > 57)) = (decide (i = 0) || !digitF c) := by
    rw [Bool.eq_iff_iff]
    simp only [digitF, Bool.and_eq_true, Bool.or_eq_true, decide_eq_true_eq, Bool.not_eq_true', Bool.and_eq_false_iff, decide_eq_false_iff_not]; omega
  rw [nameB, blankB, e, e2]
theorem nameL_eq : ∀ (l : List UInt8) (i : Int), nameL i l = blankL i l
  | [], i => rfl
  | x :: l, i => by rw [nameL, blankL, nameB_eq, nameL_eq l (i + 1)]
theorem name_eq (s : ByteArray) : nameF s = wordF s 32 := by
  have hsz := bsize s
  rw [nameF, wordF, nameL_eq]
  rcases hs : bys s with _ | ⟨x, l⟩
  · rw [hs] at hsz
    simp only [List.length_nil] at hsz
    have h1 : decide ((s.size : Int) ≥ 1) = false := decide_eq_false (by omega)
    have h2 : decide ((s.size : Int) < 1) = true := decide_eq_true (by omega)
    simp [h1, h2]
  · rw [hs] at hsz
    simp only [List.length_cons] at hsz
    have h1 : decide ((s.size : Int) ≥ 1) = true := decide_eq_true (by omega)
    have h2 : decide ((s.size : Int) < 1) = false := decide_eq_false (by omega)
    have h3 : decide ((s.size : Int) > 32) = !decide ((s.size : Int) ≤ 32) := by
      by_cases h : (s.size : Int) ≤ 32
      · simp [h]
      · simp [h]; omega
    rw [blankL, wordL, blankL_pos l (0 + 1) (by omega), h1, h2, h3, show head8 (x :: l) = x from rfl]
    simp only [blankB, decide_true, Bool.true_or, Bool.and_true, Bool.false_or]
    cases letterF (x.toNat : Int) <;> cases decide ((s.size : Int) ≤ 32) <;> simp
/-! Tags -/
def splitL : List UInt8 → List (List UInt8)
  | [] => [[]]
  | x :: l => if x = 45 then [] :: splitL l else match splitL l with
    | p :: ps => (x :: p) :: ps
    | [] => [[x]]
theorem splitL_cons (l : List UInt8) : ∃ p ps, splitL l = p :: ps := by
  cases l with
  | nil => exact ⟨[], [], rfl⟩
  | cons x l =>
    rw [splitL]
    split
    · exact ⟨_, _, rfl⟩
    · split
      · exact ⟨_, _, rfl⟩
      · exact ⟨_, _, rfl⟩
theorem splitL_none : ∀ {l : List UInt8}, l.count 45 = 0 → splitL l = [l]
  | [], _ => rfl
  | x :: l, h => by
    rw [List.count_cons] at h
    have hx : x ≠ 45 := by intro e; subst e; simp at h
    rw [splitL, if_neg hx, splitL_none (by omega)]
theorem splitL_app : ∀ {p q : List UInt8}, p.count 45 = 0 → splitL (p ++ 45 :: q) = p :: splitL q
  | [], q, _ => by simp [splitL]
  | x :: p, q, h => by
    rw [List.count_cons] at h
    have hx : x ≠ 45 := by intro e; subst e; simp at h
    rw [List.cons_append, splitL, if_neg hx, splitL_app (by omega)]
theorem ix_spec : ∀ (l : List UInt8), (Lib.indexByte l 45 = -1 ∧ l.count 45 = 0) ∨ ∃ n : Nat, Lib.indexByte l 45 = n ∧ n < l.length ∧ l = l.take n ++ 45 :: l.drop (n + 1) ∧ (l.take n).count 45 = 0
  | [] => .inl ⟨rfl, rfl⟩
  | x :: l => by
    rw [Lib.indexByte]
    by_cases hx : x = 45
    · subst hx
      exact .inr ⟨0, by simp, by simp, by simp, by simp⟩
    · have hx' : (x == (45 : UInt8)) = false := by simpa using hx
      rw [if_neg (by rw [hx']; simp)]
      rcases ix_spec l with ⟨h1, h2⟩ | ⟨n, h1, h2, h3, h4⟩
      · left
        rw [h1]
        exact ⟨rfl, by rw [List.count_cons, h2, hx']; rfl⟩
      · right
        refine ⟨n + 1, ?_, by simp only [List.length_cons]; omega, ?_, ?_⟩
        · rw [h1, if_neg (by first | (simp; done) | (simp; omega))]; omega
        · rw [List.take_succ_cons, List.drop_succ_cons, List.cons_append, ← h3]
        · rw [List.take_succ_cons, List.count_cons, h4, hx']; rfl
theorem ixD_eq (s : ByteArray) : ixD s = Lib.indexByte (bys s) 45 := rfl
theorem pieces_split : ∀ (k : Nat) (s : ByteArray), (bys s).count 45 = k → (piecesG k s).map bys = splitL (bys s)
  | 0, s, h => by rw [piecesG, splitL_none h]; rfl
  | k + 1, s, h => by
    have hsz := bsize s
    rw [piecesG]
    rcases ix_spec (bys s) with ⟨h1, h2⟩ | ⟨n, h1, h2, h3, h4⟩
    · omega
    · rw [if_neg (by rw [ixD_eq, h1]; omega), List.map_cons, ixD_eq, h1, Int.toNat_natCast, bys_extract, List.drop_zero]
      have hq : bys (s.extract (n + 1) s.size) = (bys s).drop (n + 1) := by rw [bys_extract, List.take_of_length_le (by omega)]
      have hc : ((bys s).drop (n + 1)).count 45 = k := by
        rw [h3, List.count_append, h4, List.count_cons] at h
        simp at h; exact h
      rw [pieces_split k _ (by rw [hq]; exact hc), hq]
      conv => rhs; rw [h3]
      rw [splitL_app h4]
theorem splitD_eq (s : ByteArray) : (splitD s).map bys = splitL (bys s) := by
  have hsz := bsize s
  have hc : (bys s).count 45 ≤ (bys s).length := List.count_le_length
  have e : min (cntB s + 1) (s.size + 1) - 1 = (bys s).count 45 := by
    rw [show cntB s = (bys s).count 45 from rfl]; omega
  rw [splitD, e]
  exact pieces_split _ s rfl
def okP1 (first : Bool) : List UInt8 → Bool
  | [] => true
  | x :: l => if tagB first (x.toNat : Int) = true then false else okP1 first l
def okPs : List (List UInt8) → Bool
  | [] => true
  | p :: ps => if p = [] then false else if okP1 false p = true then okPs ps else false
theorem tagUB_eq (i : Int) (c : Int) : tagUB i c = tagB (decide (i = 0)) c := by
  have e : (decide (c < 97) || decide (c > 122)) = !(decide (c ≥ 97) && decide (c ≤ 122)) := by
    rw [Bool.eq_iff_iff]
    simp only [Bool.and_eq_true, Bool.or_eq_true, decide_eq_true_eq, Bool.not_eq_true', Bool.and_eq_false_iff, decide_eq_false_iff_not]; omega
  rw [tagUB, tagB, e]
theorem partU_eq (i : Int) : ∀ l : List UInt8, partU i l = okP1 (decide (i = 0)) l
  | [] => rfl
  | x :: l => by rw [partU, okP1, tagUB_eq, partU_eq i l]
theorem bys_nil (p : ByteArray) : (p = ⟨#[]⟩) ↔ bys p = [] := beq_iff
theorem partsU_pos : ∀ (l : List ByteArray) (i : Int), 0 < i → partsU i l = okPs (l.map bys)
  | [], i, _ => rfl
  | p :: l, i, h => by
    rw [partsU, List.map_cons, okPs, partU_eq, partsU_pos l (i + 1) (by omega), show decide (i = 0) = false from decide_eq_false (by omega)]
    by_cases hp : p = ⟨#[]⟩
    · rw [if_pos hp, if_pos ((bys_nil p).1 hp)]
    · rw [if_neg hp, if_neg (fun h => hp ((bys_nil p).2 h))]
def tagS : Bool → Bool → List UInt8 → Bool
  | pe, _, [] => !pe
  | pe, first, x :: l => if x = 45 then (if pe = true then false else tagS true false l) else if tagB first (x.toNat : Int) = true then false else tagS false first l
theorem tagS_split : ∀ (l : List UInt8) (pe first : Bool), tagS pe first l = match splitL l with
    | p :: ps => (!(pe && decide (p = []))) && okP1 first p && okPs ps
    | [] => false
  | [], pe, first => by cases pe <;> rfl
  | x :: l, pe, first => by
    rw [tagS, splitL]
    obtain ⟨p, ps, hp⟩ := splitL_cons l
    by_cases hx : x = 45
    · rw [if_pos hx, if_pos hx, tagS_split l true false, hp]
      cases pe with
      | true => rfl
      | false =>
        simp only [okPs, okP1]
        by_cases hpn : p = []
        · simp [hpn]
        · simp only [hpn, if_false, decide_false, Bool.and_false, Bool.not_false, Bool.true_and, Bool.false_and]
          cases okP1 false p <;> simp
    · rw [if_neg hx, if_neg hx, tagS_split l false first, hp]
      simp only [okP1]
      cases tagB first (x.toNat : Int) <;> simp
theorem tagU_tagS (s : ByteArray) : tagU s = (tagS true true (bys s) && decide ((s.size : Int) ≤ 35)) := by
  have h := splitD_eq s
  rw [tagU, tagS_split]
  obtain ⟨p, ps, hp⟩ := splitL_cons (bys s)
  rw [hp] at h ⊢
  rcases hs : splitD s with _ | ⟨q, qs⟩
  · rw [hs] at h; cases h
  · rw [hs, List.map_cons, List.cons.injEq] at h
    rw [partsU, partU_eq, partsU_pos qs (0 + 1) (by omega), h.2, h.1]
    by_cases hq : q = ⟨#[]⟩
    · have hpn : p = [] := by rw [← h.1]; exact (bys_nil q).1 hq
      rw [if_pos hq]; simp [hpn]
    · have hpn : p ≠ [] := fun e => hq ((bys_nil q).2 (h.1.trans e))
      rw [if_neg hq]
      simp only [hpn, decide_false, Bool.and_false, Bool.not_false, Bool.true_and, decide_true]
      cases okP1 true p <;> cases okPs ps <;> simp
theorem tagS_tagL (all : List UInt8) : ∀ (l : List UInt8) (i : Nat) (first : Bool), 0 < i → all.drop i = l → i ≤ all.length → tagS (decide (all.getD (i - 1) 0 = 45)) first l = (tagL all i first l && decide (all.getD (all.length - 1) 0 ≠ 45))
  | [], i, first, h0, hd, hl => by
    have hlen := congrArg List.length hd
    rw [List.length_drop, List.length_nil] at hlen
    rw [tagS, tagL, show i - 1 = all.length - 1 by omega]
    simp
  | x :: l, i, first, h0, hd, hl => by
    have hlen := congrArg List.length hd
    rw [List.length_drop, List.length_cons] at hlen
    have hx : all.getD i 0 = x := by
      have : all[i]? = some x := by rw [← List.head?_drop, hd]; rfl
      rw [List.getD_eq_getElem?_getD, this]; rfl
    have hd' : all.drop (i + 1) = l := by rw [← List.tail_drop, hd]; rfl
    have ih := fun f => tagS_tagL all l (i + 1) f (by omega) hd' (by omega)
    rw [Nat.add_sub_cancel, hx] at ih
    have e45 : (decide (((x : UInt8).toNat : Int) = 45) = true) ↔ x = 45 := by
      rw [decide_eq_true_eq]
      constructor
      · intro h; apply UInt8.toNat_inj.1; show x.toNat = 45; omega
      · intro h; subst h; rfl
    have e45' : (decide (((all.getD (i - 1) 0 : UInt8).toNat : Int) = 45) = true) ↔ all.getD (i - 1) 0 = 45 := by
      rw [decide_eq_true_eq]
      constructor
      · intro h; apply UInt8.toNat_inj.1; show (all.getD (i - 1) 0).toNat = 45; omega
      · intro h; rw [h]; rfl
    rw [tagS, tagL]
    by_cases hx45 : x = 45
    · rw [if_pos hx45, if_pos (e45.2 hx45)]
      by_cases hp : all.getD (i - 1) 0 = 45
      · rw [if_pos (decide_eq_true hp), if_pos (e45'.2 hp)]; simp
      · rw [if_neg (by simpa using hp), if_neg (fun h => hp (e45'.1 h)), ← ih false, show decide (x = 45) = true from decide_eq_true hx45]
    · rw [if_neg hx45, if_neg (fun h => hx45 (e45.1 h))]
      cases tagB first (x.toNat : Int) with
      | true => simp
      | false =>
        simp only [Bool.false_eq_true, if_false]
        rw [← ih first, show decide (x = 45) = false from decide_eq_false hx45]
theorem dash_iff (x : UInt8) : ((x.toNat : Int) = 45) ↔ x = 45 := by
  constructor
  · intro h; apply UInt8.toNat_inj.1; show x.toNat = 45; omega
  · intro h; subst h; rfl
theorem tag_eq (s : ByteArray) : tagU s = tagR s := by
  have hsz := bsize s
  rw [tagU_tagS, tagR]
  rcases hs : bys s with _ | ⟨x, l⟩
  · rw [hs] at hsz
    simp only [List.length_nil] at hsz
    rw [if_pos (by simp; omega)]; rfl
  · rw [hs] at hsz
    simp only [List.length_cons] at hsz
    rw [show head8 (x :: l) = x from rfl]
    by_cases h35 : (s.size : Int) ≤ 35
    · by_cases hx : x = 45
      · rw [if_pos (by simp [dash_iff, hx]), tagS, if_pos hx]; simp
      · have hl := tagS_tagL (x :: l) l 1 true (by omega) rfl (by simp)
        rw [show (x :: l).getD (1 - 1) 0 = x from rfl, show decide (x = 45) = false from decide_eq_false hx] at hl
        rw [show (x :: l).length - 1 = s.size - 1 by simp only [List.length_cons]; omega] at hl
        have hx' : ¬ decide ((x.toNat : Int) = 45) = true := by rw [decide_eq_true_eq, dash_iff]; exact hx
        rw [tagS, if_neg hx]
        have hT : tagL (x :: l) 0 true (x :: l) = if tagB true (x.toNat : Int) = true then false else tagL (x :: l) 1 true l := by rw [tagL, if_neg hx']
        have d1 : decide ((s.size : Int) < 1) = false := decide_eq_false (by omega)
        have d2 : decide ((s.size : Int) > 35) = false := decide_eq_false (by omega)
        have d3 : decide ((x.toNat : Int) = 45) = false := by rw [decide_eq_false_iff_not, dash_iff]; exact hx
        have d4 : decide ((((x :: l).getD (s.size - 1) 0 : UInt8).toNat : Int) = 45) = decide ((x :: l).getD (s.size - 1) 0 = 45) := by rw [Bool.eq_iff_iff, decide_eq_true_eq, decide_eq_true_eq, dash_iff]
        rw [d1, d2, d3, d4, hT, hl, show decide ((s.size : Int) ≤ 35) = true from decide_eq_true h35]
        by_cases hlast : (x :: l).getD (s.size - 1) 0 = 45
        · rw [show decide ((x :: l).getD (s.size - 1) 0 ≠ 45) = false from decide_eq_false (fun h => h hlast), show decide ((x :: l).getD (s.size - 1) 0 = 45) = true from decide_eq_true hlast]
          cases tagB true (x.toNat : Int) <;> simp
        · rw [show decide ((x :: l).getD (s.size - 1) 0 ≠ 45) = true from decide_eq_true hlast, show decide ((x :: l).getD (s.size - 1) 0 = 45) = false from decide_eq_false hlast]
          cases tagB true (x.toNat : Int) <;> simp
    · rw [if_pos (by simp only [Bool.or_eq_true, decide_eq_true_eq]; exact .inl (.inl (.inr (by omega))))]
      simp [h35]
theorem term_eq (t : Term) : termU t = termR t := by
  rw [termU, termR]
  simp only [k1F, k2F, k3F, k4F, k5F, iri_eq, blank_eq, val_eq, tag_eq]
end Go.AM.Tryd
end
section
set_option linter.unusedVariables false
set_option linter.unusedSimpArgs false
set_option maxRecDepth 100000
namespace Go.AM.Tryd
open Go Go.AM Go.AM.D
theorem slot_eq (s : Slot) : slotU s = slotR s := by
  rw [slotU, slotR, term_eq, name_eq]
  by_cases h : s.var = ⟨#[]⟩
  · rw [if_pos h, if_neg (fun e => e h)]
  · rw [if_neg h, if_pos h, Bool.and_comm]
theorem pat_eq (p : Pat) : patU p = patR p := by rw [patU, patR, slot_eq, slot_eq, slot_eq]
theorem part_eq (l : Lt) : partU2 l = partR l := by
  rw [partU2, partR]
  simp only [Bool.or_eq_true, decide_eq_true_eq, pat_eq, slot_eq]
  by_cases h : l.kind = 1 ∨ l.kind = 2
  · rw [if_pos h, if_pos h]
  · rw [if_neg h, if_neg h]
    by_cases h2 : l.kind = 3 ∨ l.kind = 4
    · rw [if_pos h2]
      have : (decide (l.kind = 3) || decide (l.kind = 4)) = true := by simpa using h2
      rw [this, Bool.true_and]
    · rw [if_neg h2]
      have : (decide (l.kind = 3) || decide (l.kind = 4)) = false := by simpa using h2
      rw [this]; rfl
theorem bodyR_eq (q : Bool) : ∀ b : List Lt, bodyR q b = (q && !(b.any fun l => !partR l))
  | [] => by simp [bodyR]
  | x :: b => by
    rw [bodyR, bodyR_eq q b, List.any_cons]
    cases partR x <;> simp
theorem may_eq (r : Rule) : mayU r = mayR r := by
  rw [mayU, mayR, bodyR_eq]
  simp only [pat_eq, part_eq]
  by_cases h : (r.body.length : Int) > 64
  · rw [if_pos h, show decide ((r.body.length : Int) ≤ 64) = false from decide_eq_false (by omega)]; simp
  · rw [if_neg h, show decide ((r.body.length : Int) ≤ 64) = true from decide_eq_true (by omega)]; simp
theorem inF_iff (s : ByteArray) : ∀ l : List ByteArray, inF s l = true ↔ s ∈ l
  | [] => by simp [inF]
  | x :: l => by
    rw [inF]
    by_cases h : x = s
    · subst h; simp
    · have h' : ¬ s = x := fun e => h e.symm
      rw [if_neg h, inF_iff s l]
      constructor
      · intro k; exact List.mem_cons_of_mem _ k
      · intro k; exact (List.mem_cons.1 k).resolve_left h'
theorem notIn (s : ByteArray) (l : List ByteArray) : (!inF s l) = true ↔ s ∉ l := by
  rw [Bool.not_eq_true', ← Bool.not_eq_true, inF_iff]
theorem varNotIn (s : ByteArray) (l : List ByteArray) : (decide (s ≠ ⟨#[]⟩) && !inF s l) = true ↔ (s ≠ ⟨#[]⟩ ∧ s ∉ l) := by
  rw [Bool.and_eq_true, decide_eq_true_eq, notIn]
open Classical in
theorem checkUL_eq (g : List ByteArray) : ∀ l : List (Int × Slot), checkUL g l = if (∃ p ∈ l, p.2.var ≠ ⟨#[]⟩ ∧ p.2.var ∉ g) then 5 else 0
  | [] => by rw [checkUL, if_neg]; rintro ⟨p, hp, -⟩; cases hp
  | p :: l => by
    rw [checkUL, checkUL_eq g l]
    by_cases h : p.2.var ≠ ⟨#[]⟩ ∧ p.2.var ∉ g
    · rw [if_pos ((varNotIn _ _).2 h), if_pos ⟨p, List.mem_cons_self .., h⟩]
    · rw [if_neg (fun k => h ((varNotIn _ _).1 k))]
      congr 1
      apply propext
      simp only [List.mem_cons, exists_eq_or_imp, h, false_or]
open Classical in
theorem checkL_eq (g : List ByteArray) : ∀ l : List ByteArray, checkL g l = if (∃ v ∈ l, v ∉ g) then 5 else 0
  | [] => by rw [checkL, if_neg]; rintro ⟨p, hp, -⟩; cases hp
  | v :: l => by
    rw [checkL, checkL_eq g l]
    by_cases h : v ∈ g
    · rw [if_neg (fun k => ((notIn _ _).1 k) h)]
      congr 1
      apply propext
      simp only [List.mem_cons, exists_eq_or_imp, h, not_true_eq_false, false_or]
    · rw [if_pos ((notIn _ _).2 h), if_pos ⟨v, List.mem_cons_self .., h⟩]
theorem mem_varL (v : ByteArray) : ∀ (l : List Slot) (acc : List ByteArray), v ∈ varL l acc ↔ v ∈ acc ∨ (v ≠ ⟨#[]⟩ ∧ ∃ s ∈ l, s.var = v)
  | [], acc => by simp [varL]
  | s :: l, acc => by
    rw [varL]
    by_cases h : s.var ≠ ⟨#[]⟩ ∧ s.var ∉ acc
    · rw [if_pos ((varNotIn _ _).2 h), mem_varL v l, List.mem_append, List.mem_singleton]
      simp only [List.mem_cons, exists_eq_or_imp]
      constructor
      · rintro ((h1 | rfl) | h1)
        · exact .inl h1
        · exact .inr ⟨h.1, .inl rfl⟩
        · exact .inr ⟨h1.1, .inr h1.2⟩
      · rintro (h1 | ⟨h1, rfl | h2⟩)
        · exact .inl (.inl h1)
        · exact .inl (.inr rfl)
        · exact .inr ⟨h1, h2⟩
    · rw [if_neg (fun k => h ((varNotIn _ _).1 k)), mem_varL v l]
      simp only [List.mem_cons, exists_eq_or_imp]
      constructor
      · rintro (h1 | h1)
        · exact .inl h1
        · exact .inr ⟨h1.1, .inr h1.2⟩
      · rintro (h1 | ⟨h1, rfl | h2⟩)
        · exact .inl h1
        · left
          by_cases hm : s.var ∈ acc
          · exact hm
          · exact absurd ⟨h1, hm⟩ h
        · exact .inr ⟨h1, h2⟩
theorem mem_allL (s : Slot) : ∀ (b : List Lt) (acc : List Slot), s ∈ allL b acc ↔ s ∈ acc ∨ ∃ x ∈ b, s ∈ slotsR x
  | [], acc => by simp [allL]
  | x :: b, acc => by
    rw [allL, mem_allL s b]
    simp only [List.mem_append, List.mem_cons, exists_eq_or_imp, or_assoc]
theorem mem_bodyP (p : Int × Slot) : ∀ (b : List Lt) (i : Int), p ∈ bodyP i b ↔ ∃ (j : Nat) (x : Lt), b[j]? = some x ∧ p.1 = i + (j : Int) ∧ p.2 ∈ slotsR x
  | [], i => by simp [bodyP]
  | x :: b, i => by
    rw [bodyP, List.mem_append, mem_bodyP p b (i + 1)]
    constructor
    · rintro (h | ⟨j, y, h1, h2, h3⟩)
      · rw [List.mem_map] at h
        obtain ⟨s, hs, rfl⟩ := h
        exact ⟨0, x, rfl, by simp, hs⟩
      · exact ⟨j + 1, y, by simpa using h1, by rw [h2]; omega, h3⟩
    · rintro ⟨j, y, h1, h2, h3⟩
      rcases j with _ | j
      · injection h1 with h1; subst h1
        left
        rw [List.mem_map]
        exact ⟨p.2, h3, by rw [show i = p.1 by omega]⟩
      · right
        exact ⟨j, y, by simpa using h1, by rw [h2]; omega, h3⟩
theorem slots_of_places (r : Rule) (s : Slot) : (∃ p ∈ placesL r, p.2 = s) ↔ s ∈ allR r := by
  rw [allR, mem_allL]
  simp only [placesL, List.mem_append, headP, List.mem_cons, List.not_mem_nil, or_false]
  constructor
  · rintro ⟨p, (rfl | rfl | rfl) | h, rfl⟩
    · exact .inl (.inl rfl)
    · exact .inl (.inr (.inl rfl))
    · exact .inl (.inr (.inr rfl))
    · obtain ⟨j, x, h1, h2, h3⟩ := (mem_bodyP p r.body 0).1 h
      exact .inr ⟨x, List.mem_of_getElem? h1, h3⟩
  · rintro ((rfl | rfl | rfl) | ⟨x, h1, h2⟩)
    · exact ⟨(-1, r.head.a), .inl (.inl rfl), rfl⟩
    · exact ⟨(-1, r.head.b), .inl (.inr (.inl rfl)), rfl⟩
    · exact ⟨(-1, r.head.c), .inl (.inr (.inr rfl)), rfl⟩
    · obtain ⟨j, hj, rfl⟩ := List.mem_iff_getElem.1 h1
      exact ⟨((j : Int), s), .inr ((mem_bodyP _ r.body 0).2 ⟨j, _, List.getElem?_eq_getElem hj, by simp, h2⟩), rfl⟩
theorem mem_givenL (v : ByteArray) : ∀ (b : List Lt) (acc : List ByteArray), v ∈ givenL b acc ↔ v ∈ acc ∨ ∃ x ∈ b, x.kind = 1 ∧ v ∈ vs3 x.pat
  | [], acc => by simp [givenL]
  | x :: b, acc => by
    rw [givenL]
    by_cases h : x.kind = 1
    · rw [if_neg (fun e => e h), mem_givenL v b]
      simp only [List.mem_append, List.mem_cons, exists_eq_or_imp, h, true_and, or_assoc]
    · rw [if_pos h, mem_givenL v b]
      simp only [List.mem_cons, exists_eq_or_imp, h, false_and, false_or]
theorem slots_one {x : Lt} (h : x.kind = 1) (v : ByteArray) : v ∈ vs3 x.pat ↔ ∃ s ∈ slotsR x, s.var = v := by
  rw [slotsR, if_pos (by simp [h])]
  simp only [vs3, List.mem_cons, List.not_mem_nil, or_false, exists_eq_or_imp, exists_eq_left]
  constructor
  · rintro (rfl | rfl | rfl)
    · exact .inl rfl
    · exact .inr (.inl rfl)
    · exact .inr (.inr rfl)
  · rintro (rfl | rfl | rfl)
    · exact .inl rfl
    · exact .inr (.inl rfl)
    · exact .inr (.inr rfl)
theorem mem_givP (r : Rule) (v : ByteArray) : v ∈ givP r (placesL r).length ↔ v ≠ ⟨#[]⟩ ∧ v ∈ givenR r := by
  rw [givP, List.take_of_length_le (Nat.le_refl _), List.mem_map, givenR, mem_givenL]
  simp only [List.mem_filter, condP, Bool.and_eq_true, decide_eq_true_eq, List.not_mem_nil, false_or]
  constructor
  · rintro ⟨p, ⟨hp, ⟨h1, h2⟩, h3⟩, rfl⟩
    refine ⟨h3, ?_⟩
    rw [placesL, List.mem_append] at hp
    rcases hp with hp | hp
    · simp only [headP, List.mem_cons, List.not_mem_nil, or_false] at hp
      rcases hp with rfl | rfl | rfl <;> simp at h1
    · obtain ⟨j, x, k1, k2, k3⟩ := (mem_bodyP p r.body 0).1 hp
      have hx : litAt r p.1 = x := by
        rw [litAt, show p.1.toNat = j by omega, k1]; rfl
      rw [hx] at h2
      exact ⟨x, List.mem_of_getElem? k1, h2, (slots_one h2 _).2 ⟨p.2, k3, rfl⟩⟩
  · rintro ⟨h1, x, hx, h2, h3⟩
    obtain ⟨s, hs, rfl⟩ := (slots_one h2 v).1 h3
    obtain ⟨j, hj, rfl⟩ := List.mem_iff_getElem.1 hx
    refine ⟨((j : Int), s), ⟨?_, ⟨by simp, ?_⟩, h1⟩, rfl⟩
    · rw [placesL, List.mem_append]
      exact .inr ((mem_bodyP _ r.body 0).2 ⟨j, _, List.getElem?_eq_getElem hj, by simp, hs⟩)
    · rw [litAt, Int.toNat_natCast, List.getElem?_eq_getElem hj]; exact h2
theorem rule_eq (r : Rule) : ruleU r = ruleQ r := by
  rw [ruleU, ruleQ, may_eq, checkUL_eq, checkL_eq]
  split
  · rfl
  · congr 1
    apply propext
    constructor
    · rintro ⟨p, hp, h1, h2⟩
      refine ⟨p.2.var, (mem_varL _ _ _).2 (.inr ⟨h1, p.2, (slots_of_places r p.2).1 ⟨p, hp, rfl⟩, rfl⟩), fun h => h2 ((mem_givP r _).2 ⟨h1, h⟩)⟩
    · rintro ⟨v, hv, h2⟩
      rw [varsR, mem_varL] at hv
      rcases hv with hv | ⟨h1, s, hs, rfl⟩
      · cases hv
      · obtain ⟨p, hp, rfl⟩ := (slots_of_places r s).2 hs
        exact ⟨p, hp, h1, fun h => h2 ((mem_givP r _).1 h).2⟩
theorem first_eq : ∀ l : List Rule, firstB l = errL l
  | [] => rfl
  | r :: l => by rw [firstB, errL, rule_eq, first_eq l]
theorem nv_eq : ∀ b : List Lt, nvB b = notB b
  | [] => rfl
  | x :: b => by rw [nvB, notB, nv_eq b]
theorem sameL_eq : ∀ (a b : List Lt), a.length = b.length → sameL a b = decide (a = b)
  | [], [], _ => by simp [sameL]
  | x :: a, y :: b, h => by
    have ih := sameL_eq a b (by simpa using h)
    rw [sameL, ih]
    by_cases hxy : x = y
    · simp [hxy]
    · simp [hxy]
theorem sameP_eq (o r : Rule) : sameP o r = decide (o = r) := by
  obtain ⟨oh, ob⟩ := o
  obtain ⟨rh, rb⟩ := r
  rw [sameP, eqL]
  by_cases hl : ob.length = rb.length
  · rw [if_neg (by simp [hl]), sameL_eq _ _ hl]
    rw [Bool.eq_iff_iff]; simp
  · rw [if_pos (by simp only []; omega)]
    have : ¬ ob = rb := fun e => hl (by rw [e])
    simp [this]
theorem sameR_eq (o r : Rule) : sameR o r = decide (o = r) := by
  obtain ⟨oh, ob⟩ := o
  obtain ⟨rh, rb⟩ := r
  rw [sameR]
  by_cases hl : ob.length = rb.length
  · by_cases hh : oh = rh
    · rw [if_neg (by simp [hl, hh]), sameL_eq _ _ hl]
      rw [Bool.eq_iff_iff]; simp [hh]
    · rw [if_pos (by simp [hh])]; simp [hh]
  · rw [if_pos (by simp only [Bool.or_eq_true, decide_eq_true_eq]; exact .inr (by omega))]
    have : ¬ ob = rb := fun e => hl (by rw [e])
    simp [this]
theorem dupIn_eq (r : Rule) : ∀ m : List Rule, dupIn r m = m.any fun o => sameP o r
  | [] => rfl
  | o :: m => by
    rw [dupIn, dupIn_eq r m, List.any_cons, sameR_eq, sameP_eq]
    by_cases h : r = o
    · simp [h]
    · have h' : ¬ o = r := fun e => h e.symm
      simp [h, h']
theorem progS_eq (all : List Rule) (not : Bool) : ∀ (l : List Rule) (i : Nat) (bad : Int), progS all not i l bad = if (l.any fun r => (not && decide (r.head.b.var ≠ ⟨#[]⟩)) || notB r.body) = true then 5 else if bad ≠ 0 then bad else if dupL all i l = true then 8 else 0
  | [], i, bad => by
    rw [progS, dupL]
    by_cases h : bad = 0 <;> simp [h]
  | r :: l, i, bad => by
    rw [progS, progS_eq all not l (i + 1), List.any_cons, dupL, dupIn_eq, nv_eq]
    by_cases h1 : (not && decide (r.head.b.var ≠ ⟨#[]⟩)) = true
    · rw [if_pos h1, h1]; simp
    · rw [if_neg h1, show (not && decide (r.head.b.var ≠ ⟨#[]⟩)) = false by simpa using h1]
      by_cases h2 : notB r.body = true
      · rw [if_pos h2, h2]; simp
      · rw [if_neg h2, show notB r.body = false by simpa using h2]
        simp only [Bool.or_self, Bool.false_or]
        split
        · rfl
        · by_cases hb : bad = 0
          · subst hb
            simp only [decide_true, Bool.true_and]
            cases (all.take i).any (fun o => sameP o r) <;> simp
          · rw [show decide (bad = 0) = false from decide_eq_false hb]
            simp [hb]
theorem notB_negB : ∀ b : List Lt, notB b = true → negB b = true
  | x :: b, h => by
    rw [notB] at h
    rw [negB]
    split
    · rfl
    · rename_i hk
      rw [if_neg (by simp [hk])] at h
      exact notB_negB b h
theorem negF_of {r : Rule} : ∀ {l : List Rule}, r ∈ l → negB r.body = true → negF l = true
  | x :: l, hm, h => by
    rw [negF]
    split
    · rfl
    · rename_i hn
      rcases List.mem_cons.1 hm with rfl | hm
      · exact absurd h hn
      · exact negF_of hm h
theorem notL_iff : ∀ l : List Rule, notL l = l.any fun r => decide (r.head.b.var ≠ ⟨#[]⟩) || notB r.body
  | [] => rfl
  | r :: l => by
    rw [notL, notL_iff l, List.any_cons]
    by_cases h : r.head.b.var ≠ ⟨#[]⟩
    · rw [if_pos h]; simp [h]
    · rw [if_neg h, show decide (r.head.b.var ≠ ⟨#[]⟩) = false from decide_eq_false h]
      cases notB r.body <;> simp
theorem any_eq (l : List Rule) : (l.any fun r => (negF l && decide (r.head.b.var ≠ ⟨#[]⟩)) || notB r.body) = (negF l && notL l) := by
  rw [notL_iff]
  cases hn : negF l with
  | true => simp only [Bool.true_and]
  | false =>
    simp only [Bool.false_and, Bool.false_or]
    rw [List.any_eq_false]
    intro r hr h
    rw [negF_of hr (notB_negB _ h)] at hn
    cases hn
theorem prog_eq (l : List Rule) : progU l = progR l := by
  rw [progU, progR, first_eq, progS_eq, any_eq]
  split
  · rfl
  · split
    · rename_i h
      rw [if_pos (by simp)]
    · simp only [ne_eq, not_true_eq_false, if_false]
      split
      · rw [if_pos (by simp)]
      · rw [if_neg (by simp)]
end Go.AM.Tryd
end
section
set_option linter.unusedVariables false
set_option linter.unusedSimpArgs false
set_option maxRecDepth 100000
namespace Go.AM.Tryd
open Go Go.AM Go.AM.D
theorem predF_nodup : ∀ (l : List Rule) (acc : List Term), acc.Nodup → (predF l acc).Nodup
  | [], acc, h => h
  | r :: l, acc, h => by
    rw [predF]
    split
    · rename_i hc
      simp only [Bool.and_eq_true, decide_eq_true_eq] at hc
      refine predF_nodup l _ ?_
      rw [List.nodup_append]
      refine ⟨h, by simp, fun a ha b hb => ?_⟩
      rw [List.mem_singleton] at hb
      subst hb
      intro e
      subst e
      have hg := atF_ge r.head.b.term acc 0
      have : atF r.head.b.term acc 0 ≠ -1 := by
        obtain ⟨u, v, rfl⟩ := List.append_of_mem ha
        have h1 : atF r.head.b.term (u ++ [r.head.b.term]) 0 ≠ -1 := atF_last (by omega)
        have h2 := atF_app (m := v) (by omega) h1
        rwa [List.append_assoc, List.singleton_append] at h2
      omega
    · exact predF_nodup l _ h
theorem atF_mem {t : Term} {l : List Term} (h : t ∈ l) : atF t l 0 ≠ -1 := by
  obtain ⟨u, v, rfl⟩ := List.append_of_mem h
  have h1 : atF t (u ++ [t]) 0 ≠ -1 := atF_last (by omega)
  have h2 := atF_app (m := v) (by omega) h1
  rwa [List.append_assoc, List.singleton_append] at h2
theorem lookI_at {t : Term} {p : List Term} (h : atF t p 0 ≠ -1) : p[(lookI t p).toNat]? = some t := by
  have h1 := atF_at h (by omega)
  have h2 := lookI_lt h
  rw [h2.2.2]
  rwa [Int.sub_zero] at h1
theorem lookI_tAt {p : List Term} (hn : p.Nodup) {i : Nat} (hi : i < p.length) : (lookI (tAt p i) p).toNat = i := by
  have hm : tAt p i ∈ p := List.mem_of_getElem? (tAt_get hi)
  have h1 := lookI_at (atF_mem hm)
  have h2 := tAt_get hi
  have h3 := lookI_lt (atF_mem hm)
  exact (List.getElem?_inj (by omega) hn).1 (h1.trans h2.symm)
theorem mem_addE (o : List (List Edg)) (j : Nat) (es : List Edg) (i : Nat) (e : Edg) : e ∈ (addE o j es).getD i [] ↔ e ∈ o.getD i [] ∨ (i = j ∧ i < o.length ∧ e ∈ es) := by
  rw [addE, List.getD_eq_getElem?_getD, List.getElem?_set]
  by_cases hij : j = i
  · subst hij
    by_cases hl : j < o.length
    · rw [if_pos rfl, if_pos hl, Option.getD_some, List.mem_append]; simp [hl]
    · rw [if_pos rfl, if_neg hl, List.getD_eq_getElem?_getD, List.getElem?_eq_none (by omega)]; simp [hl]
  · rw [if_neg hij, ← List.getD_eq_getElem?_getD]
    have : ¬ i = j := fun h => hij h.symm
    simp [this]
theorem mem_outF (names : List Term) (i : Nat) (e : Edg) : ∀ (l : List Rule) (o : List (List Edg)), e ∈ (outF names l o).getD i [] ↔ e ∈ o.getD i [] ∨ (i < o.length ∧ ∃ r ∈ l, r.head.b.var = ⟨#[]⟩ ∧ (lookI r.head.b.term names).toNat = i ∧ e ∈ edgesL names r.body)
  | [], o => by simp [outF]
  | r :: l, o => by
    rw [outF]
    by_cases hv : r.head.b.var = ⟨#[]⟩
    · rw [if_neg (fun h => h hv), mem_outF names i e l, mem_addE, addE_len]
      simp only [List.mem_cons, exists_eq_or_imp, hv, true_and]
      constructor
      · rintro ((h | ⟨h1, h2, h3⟩) | ⟨h1, h2⟩)
        · exact .inl h
        · exact .inr ⟨h2, .inl ⟨h1.symm, h3⟩⟩
        · exact .inr ⟨h1, .inr h2⟩
      · rintro (h | ⟨h1, ⟨h2, h3⟩ | h2⟩)
        · exact .inl (.inl h)
        · exact .inl (.inr ⟨h2.symm, h1, h3⟩)
        · exact .inr ⟨h1, h2⟩
    · rw [if_pos hv, mem_outF names i e l]
      simp only [List.mem_cons, exists_eq_or_imp, hv, false_and, false_or]
theorem mem_edgesL (names : List Term) (e : Edg) : ∀ b : List Lt, e ∈ edgesL names b ↔ ∃ x ∈ b, e ∈ edgeL names x
  | [] => by simp [edgesL]
  | x :: b => by rw [edgesL, List.mem_append, mem_edgesL names e b]; simp
theorem hangL_iff (q : Term) (strict : Bool) : ∀ b : List Lt, hangL q strict b = true ↔ ∃ x ∈ b, (x.kind = 1 ∧ strict = false ∧ (x.pat.b.var ≠ ⟨#[]⟩ ∨ x.pat.b.term = q)) ∨ (x.kind = 2 ∧ x.pat.b.var = ⟨#[]⟩ ∧ x.pat.b.term = q)
  | [] => by simp [hangL]
  | x :: b => by
    rw [hangL]
    simp only [List.mem_cons, exists_eq_or_imp]
    by_cases h1 : ((decide (x.kind = 1) && !strict) && (decide (x.pat.b.var ≠ ⟨#[]⟩) || decide (x.pat.b.term = q))) = true
    · rw [if_pos h1]
      simp only [Bool.and_eq_true, Bool.or_eq_true, decide_eq_true_eq, Bool.not_eq_true'] at h1
      exact ⟨fun _ => .inl (.inl ⟨h1.1.1, h1.1.2, h1.2⟩), fun _ => rfl⟩
    · rw [if_neg h1]
      by_cases h2 : ((decide (x.kind = 2) && decide (x.pat.b.var = ⟨#[]⟩)) && decide (x.pat.b.term = q)) = true
      · rw [if_pos h2]
        simp only [Bool.and_eq_true, decide_eq_true_eq] at h2
        exact ⟨fun _ => .inl (.inr ⟨h2.1.1, h2.1.2, h2.2⟩), fun _ => rfl⟩
      · rw [if_neg h2, hangL_iff q strict b]
        simp only [Bool.and_eq_true, Bool.or_eq_true, decide_eq_true_eq, Bool.not_eq_true'] at h1 h2
        constructor
        · exact fun h => .inr h
        · rintro ((h | h) | h)
          · exact absurd ⟨⟨h.1, h.2.1⟩, h.2.2⟩ h1
          · exact absurd ⟨⟨h.1, h.2.1⟩, h.2.2⟩ h2
          · exact h
theorem hangF_iff (p q : Term) (strict : Bool) : ∀ l : List Rule, hangF p q strict l = true ↔ ∃ r ∈ l, r.head.b.var = ⟨#[]⟩ ∧ r.head.b.term = p ∧ hangL q strict r.body = true
  | [] => by simp [hangF]
  | r :: l => by
    rw [hangF]
    simp only [List.mem_cons, exists_eq_or_imp]
    by_cases h : r.head.b.var = ⟨#[]⟩ ∧ r.head.b.term = p
    · rw [if_neg (by simp [h.1, h.2])]
      by_cases h2 : hangL q strict r.body = true
      · rw [if_pos h2]; exact ⟨fun _ => .inl ⟨h.1, h.2, h2⟩, fun _ => rfl⟩
      · rw [if_neg h2, hangF_iff p q strict l]
        constructor
        · exact fun k => .inr k
        · rintro (k | k)
          · exact absurd k.2.2 h2
          · exact k
    · rw [if_pos ?_, hangF_iff p q strict l]
      · constructor
        · exact fun k => .inr k
        · rintro (k | k)
          · exact absurd ⟨k.1, k.2.1⟩ h
          · exact k
      · simp only [Bool.or_eq_true, decide_eq_true_eq]
        by_cases hv : r.head.b.var = ⟨#[]⟩
        · exact .inr fun e => h ⟨hv, e⟩
        · exact .inl hv
theorem notB_none {b : List Lt} (h : notB b = false) : ∀ x ∈ b, x.kind = 2 → x.pat.b.var = ⟨#[]⟩ := by
  induction b with
  | nil => intro x hx; cases hx
  | cons y b ih =>
    rw [notB] at h
    split at h
    · cases h
    · rename_i hy
      intro x hx hk
      rcases List.mem_cons.1 hx with rfl | hx
      · by_cases hv : x.pat.b.var = ⟨#[]⟩
        · exact hv
        · exact absurd (by simp [hk, hv]) hy
      · exact ih h x hx hk
theorem notL_none {l : List Rule} (h : notL l = false) : ∀ r ∈ l, notB r.body = false := by
  rw [notL_iff] at h
  intro r hr
  have := List.any_eq_false.1 h r hr
  simp only [Bool.or_eq_true, not_or, Bool.not_eq_true] at this
  exact this.2
theorem mem_see (l : List Rule) (i : Nat) (e : Edg) : (∃ es, (seeG l).out[i]? = some es ∧ e ∈ es) ↔ (i < (predF l []).length ∧ ∃ r ∈ l, r.head.b.var = ⟨#[]⟩ ∧ (lookI r.head.b.term (predF l [])).toNat = i ∧ ∃ x ∈ r.body, e ∈ edgeL (predF l []) x) := by
  have h := mem_outF (predF l []) i e l (List.replicate (predF l []).length [])
  have h0 : (List.replicate (predF l []).length ([] : List Edg)).getD i [] = [] := by
    rw [List.getD_eq_getElem?_getD, List.getElem?_replicate]; split <;> rfl
  rw [h0, List.length_replicate] at h
  simp only [List.not_mem_nil, false_or, mem_edgesL] at h
  rw [← h]
  show _ ↔ e ∈ (seeG l).out.getD i []
  rw [List.getD_eq_getElem?_getD]
  cases (seeG l).out[i]? with
  | none => simp
  | some es => simp
theorem cl_eq {l : List Rule} (hn : notL l = false) (ns : List Int) : clP (seeG l).out ns ↔ clR l (predF l []) ns := by
  have hnd := predF_nodup l [] (by simp)
  constructor
  · intro h i k hi hk
    have key : ∀ (r : Rule) (x : Lt) (e : Edg), r ∈ l → r.head.b.var = ⟨#[]⟩ → r.head.b.term = tAt (predF l []) i → x ∈ r.body → e ∈ edgeL (predF l []) x → eok ns i e := by
      intro r x e hr hv ht hx he
      obtain ⟨es, h1, h2⟩ := (mem_see l i e).2 ⟨hi, r, hr, hv, by rw [ht]; exact lookI_tAt hnd hi, x, hx, he⟩
      exact h i es h1 e h2
    have hkm : tAt (predF l []) k ∈ predF l [] := List.mem_of_getElem? (tAt_get hk)
    have hlk := lookI_lt (atF_mem hkm)
    have hlkk := lookI_tAt hnd hk
    have hlB : lookB (tAt (predF l []) k) (predF l []) = true := by simp only [lookB, decide_eq_true_eq]; omega
    refine ⟨fun hh => ?_, fun hh => ?_⟩
    · obtain ⟨r, hr, hv, ht, hb⟩ := (hangF_iff _ _ _ _).1 hh
      obtain ⟨x, hx, ⟨-, h2, -⟩ | ⟨h1, h2, h3⟩⟩ := (hangL_iff _ _ _).1 hb
      · cases h2
      · have := key r x ⟨lookI x.pat.b.term (predF l []), decide (x.kind = 2)⟩ hr hv ht hx (by
          rw [edgeL, if_neg (by simp [h1]), if_neg (fun e => e h2), h3, if_pos hlB]; simp)
        rw [eok, h3, hlkk] at this
        simpa [h1] using this
    · obtain ⟨r, hr, hv, ht, hb⟩ := (hangF_iff _ _ _ _).1 hh
      obtain ⟨x, hx, ⟨h1, -, h3⟩ | ⟨h1, h2, h3⟩⟩ := (hangL_iff _ _ _).1 hb
      · by_cases hv2 : x.pat.b.var = ⟨#[]⟩
        · have h4 := h3.resolve_left (fun e => e hv2)
          have := key r x ⟨lookI x.pat.b.term (predF l []), decide (x.kind = 2)⟩ hr hv ht hx (by
            rw [edgeL, if_neg (by simp [h1]), if_neg (fun e => e hv2), h4, if_pos hlB]; simp)
          rw [eok, h4, hlkk] at this
          simpa [h1] using this
        · have := key r x ⟨(k : Int), false⟩ hr hv ht hx (by
            rw [edgeL, if_neg (by simp [h1]), if_pos hv2, List.mem_map]
            exact ⟨k, List.mem_range.2 hk, rfl⟩)
          rw [eok, Int.toNat_natCast] at this
          simpa using this
      · have := key r x ⟨lookI x.pat.b.term (predF l []), decide (x.kind = 2)⟩ hr hv ht hx (by
          rw [edgeL, if_neg (by simp [h1]), if_neg (fun e => e h2), h3, if_pos hlB]; simp)
        rw [eok, h3, hlkk] at this
        simp only [h1, decide_true, if_true] at this
        omega
  · intro h i es hes e he
    obtain ⟨hi, r, hr, hv, ht, x, hx, hex⟩ := (mem_see l i e).1 ⟨es, hes, he⟩
    have hhas := predF_has (acc := []) hr hv
    have hterm : r.head.b.term = tAt (predF l []) i := by
      have h1 := lookI_at hhas
      rw [ht] at h1
      have h2 := tAt_get hi
      rw [h1] at h2
      exact Option.some.inj h2
    rw [edgeL] at hex
    split at hex
    · cases hex
    · rename_i hk
      simp only [Bool.and_eq_true, decide_eq_true_eq, not_and, Decidable.not_not] at hk
      split at hex
      · rename_i hv2
        rw [List.mem_map] at hex
        obtain ⟨k, hkr, rfl⟩ := hex
        rw [List.mem_range] at hkr
        have h1 : x.kind = 1 := by
          by_cases h1 : x.kind = 1
          · exact h1
          · exact absurd (notB_none (notL_none hn r hr) x hx (hk h1)) hv2
        have := (h i k hi hkr).2 ((hangF_iff _ _ _ _).2 ⟨r, hr, hv, hterm, (hangL_iff _ _ _).2 ⟨x, hx, .inl ⟨h1, rfl, .inl hv2⟩⟩⟩)
        rw [eok, Int.toNat_natCast]
        simpa using this
      · rename_i hv2
        simp only [Decidable.not_not, ne_eq] at hv2
        split at hex
        · rename_i hB
          rw [List.mem_singleton] at hex
          subst hex
          simp only [lookB, decide_eq_true_eq] at hB
          have hne : atF x.pat.b.term (predF l []) 0 ≠ -1 := by omega
          have hlt := lookI_lt hne
          have hk2 : (lookI x.pat.b.term (predF l [])).toNat < (predF l []).length := by omega
          have hq : tAt (predF l []) (lookI x.pat.b.term (predF l [])).toNat = x.pat.b.term := by
            have h1 := lookI_at hne
            have h2 := tAt_get hk2
            rw [h1] at h2
            exact (Option.some.inj h2).symm
          have hc := h i (lookI x.pat.b.term (predF l [])).toNat hi hk2
          rw [cpair, hq] at hc
          rw [eok]
          by_cases h2 : x.kind = 2
          · have := hc.1 ((hangF_iff _ _ _ _).2 ⟨r, hr, hv, hterm, (hangL_iff _ _ _).2 ⟨x, hx, .inr ⟨h2, hv2, rfl⟩⟩⟩)
            simpa [h2] using this
          · have h1 : x.kind = 1 := by
              by_cases h1 : x.kind = 1
              · exact h1
              · exact absurd (hk h1) h2
            have := hc.2 ((hangF_iff _ _ _ _).2 ⟨r, hr, hv, hterm, (hangL_iff _ _ _).2 ⟨x, hx, .inl ⟨h1, rfl, .inr rfl⟩⟩⟩)
            simpa [h1] using this
        · cases hex
theorem progR_not {l : List Rule} (h : progR l = 0) (hn : negF l ≠ false) : notL l = false := by
  rw [progR] at h
  split at h
  · rename_i h1; exact absurd h h1
  · split at h
    · cases h
    · rename_i h2
      simp only [Bool.and_eq_true, not_and, Bool.not_eq_true] at h2
      exact h2 (by simpa using hn)
theorem find_ref (l : List Rule) : findN l = refN l := by
  rw [findN, refN, prog_eq]
  split
  · rfl
  · rename_i h
    simp only [ne_eq, Decidable.not_not] at h
    split
    · rfl
    · rename_i hn
      rw [numV_congr fun ns _ => cl_eq (progR_not h hn) ns]
end Go.AM.Tryd
end
section
set_option maxRecDepth 100000
set_option linter.unusedVariables false
set_option linter.unusedSimpArgs false
namespace Go.AM.Tryd
open Go Go.AM Go.AM.D Go.AM.Tarjan Go.RowKit
section
variable {P : Program} {ρ : Option Nat} {Q : Exit → AS → Prop} {σ : AS} {o : Oper} {ops : Array Oper} {l : List Oper} {n d : Nat} {tm : List (Nat × AV)} {h hp h0 : Heap} {ms : List Nat} {vg : AV} {gs : List GR} {bo : Nat} {ofs : List Int}
def GC (h hp : Heap) (vg : AV) (gs : List GR) (bo : Nat) (ofs : List Int) : Prop :=
  (vg = .sl .nil 1 [] ∧ gs = [] ∧ Sep h hp [(bo, .row (ints ofs))]) ∨ ∃ bg cap rest, vg = .ms bg 0 1 gs.length cap ∧ gs.length ≤ cap ∧ (gs.map GR.cell ++ rest).length = cap ∧ Sep h hp ((bo, .row (ints ofs)) :: (bg, .row (gs.map GR.cell ++ rest)) :: gs.map GR.row)
theorem GrL.form {LG : List (Nat × AObj)} (hG : GrL vg gs LG) : (∃ S, vg = .sl .nil S []) ∨ ∃ b S len cap, vg = .ms b 0 S len cap := by
  rcases hG with ⟨rfl, -⟩ | ⟨b, cap, rest, rfl, -⟩
  · exact .inl ⟨_, rfl⟩
  · exact .inr ⟨_, _, _, _, rfl⟩
theorem GC.start {LG : List (Nat × AObj)} (hG : GrL vg gs LG) (hS : Sep h hp LG) (hb : hp bo = none) : GC h (hp.upd bo (some (.row (ints ofs)))) vg gs bo ofs := by
  have hS2 := Sep.ins (L1 := []) (L2 := LG) (o := .row (ints ofs)) hS hb
  rcases hG with ⟨h1, h2, rfl⟩ | ⟨b, cap, rest, h1, h2, h3, rfl⟩
  · exact .inl ⟨h1, h2, hS2⟩
  · exact .inr ⟨b, cap, rest, h1, h2, h3, hS2⟩
theorem GC.len (k : GC h hp vg gs bo ofs) {x : Operand} {t e : TypeId} (ho : o.op = .call { callee := .builtin .len, args := #[x], argTypes := #[t] }) (ht : P.underlying t = some (.slice e)) (hx : ev σ.tm x = some vg) : PO P ρ o σ (.lit (.int .i64 (gs.length : Nat))) := by
  rcases k with ⟨rfl, rfl, -⟩ | ⟨b, cap, rest, rfl, -⟩
  · exact PO_len ho ht hx
  · exact PO_len_ms ho ht hx
theorem GC.of (k : GC h hp vg gs bo ofs) : hp bo = some (.row (ints ofs)) := by
  rcases k with ⟨-, -, k⟩ | ⟨b, cap, rest, -, -, -, k⟩
  · exact k.get 0 rfl
  · exact k.get 0 rfl
theorem GC.le (k : GC h hp vg gs bo ofs) : h.le hp := by
  rcases k with ⟨-, -, k⟩ | ⟨b, cap, rest, -, -, -, k⟩
  · exact k.le
  · exact k.le
theorem GC.put (k : GC h hp vg gs bo ofs) {ofs2 : List Int} : GC h (hp.upd bo (some (.row (ints ofs2)))) vg gs bo ofs2 := by
  rcases k with ⟨h1, h2, k⟩ | ⟨b, cap, rest, h1, h2, h3, k⟩
  · exact .inl ⟨h1, h2, k.set 0 rfl⟩
  · exact .inr ⟨b, cap, rest, h1, h2, h3, k.set 0 rfl⟩
theorem GC.row (k : GC h hp vg gs bo ofs) {i : Nat} {y : GR} (hy : gs[i]? = some y) : hp y.b = some (.row (ints y.ns)) := by
  rcases k with ⟨h1, rfl, k⟩ | ⟨b, cap, rest, h1, h2, h3, k⟩
  · simp at hy
  · exact k.get (i + 2) (by simp only [List.getElem?_cons_succ, List.getElem?_map, hy]; rfl)
theorem GC.out (k : GC h hp vg gs bo ofs) {i : Nat} (hi : i < gs.length) : ∃ bg cap rest, vg = .ms bg 0 1 gs.length cap ∧ hp bg = some (.row (gs.map GR.cell ++ rest)) := by
  rcases k with ⟨h1, rfl, k⟩ | ⟨b, cap, rest, h1, h2, h3, k⟩
  · simp at hi
  · exact ⟨b, cap, rest, h1, k.get 1 rfl⟩
theorem gr_load {i : Nat} {y : GR} {rest : List AV} {e : TypeId} (hy : gs[i]? = some y) : loaded (.slice e) 1 ((gs.map GR.cell ++ rest).drop i) = some y.cell := by
  simp only [loaded, isAggD, List.head?_drop]
  rw [List.getElem?_append_left (by simp; exact (List.getElem?_eq_some_iff.1 hy).1), List.getElem?_map, hy]; rfl
theorem GC.sort (k : GC h hp vg gs bo ofs) {i yb : Nat} {l l2 ns ns2 : List Int} (hy : gs[i]? = some ⟨yb, l, ns⟩) (hl : l2.length = l.length) (hn : ns2.length = ns.length) : GC h (hp.upd yb (some (.row (ints ns2)))) vg (gs.set i ⟨yb, l2, ns2⟩) bo ofs := by
  rcases k with ⟨h1, rfl, k⟩ | ⟨b, cap, rest, h1, h2, h3, k⟩
  · simp at hy
  · have hc : (gs.set i ⟨yb, l2, ns2⟩).map GR.cell = gs.map GR.cell := by
      apply List.ext_getElem?
      intro j
      rw [List.getElem?_map, List.getElem?_map, List.getElem?_set]
      by_cases e : i = j
      · subst e
        have hi := (List.getElem?_eq_some_iff.1 hy).1
        rw [if_pos rfl, if_pos hi, hy]
        simp [GR.cell, hl, hn]
      · rw [if_neg e]
    refine .inr ⟨b, cap, rest, by rw [List.length_set]; exact h1, by rw [List.length_set]; exact h2, by rw [hc]; exact h3, ?_⟩
    rw [hc, List.map_set]
    exact k.set (i + 2) (by simp only [List.getElem?_cons_succ, List.getElem?_map, hy]; rfl)
theorem vr_boxW {x0 y0 : AV} (hc : AV.cell y0 = true) (hw : ∀ I v, VR I x0 v → VR I y0 v) : ∀ I v, VR I (.ip [x0]) v → VR I (.ip [y0]) v := fun I v hx => by
  cases hx with
  | ip _ ad u hs' hcl' hc' hv' =>
    refine .ip _ ad u hs' (fun a ha => by rw [List.mem_singleton] at ha; subst ha; exact hc) (fun j a ha => ?_) (fun j a ha => ?_)
    · match j, ha with
      | 0, ha => exact hc' 0 x0 rfl
    · match j, ha with
      | 0, ha => cases ha; exact hw _ _ (hv' 0 x0 rfl)
def grTree (g : GR) : AV := .sl .any 1 (g.l.map eI64)
theorem frz_gr {g : GR} (hk : g.ok) : Frz g.b (ints g.ns) g.cell (grTree g) := by
  refine .ms 0 1 _ _ (g.l.map eI64) (by simp) (by simp [eI64]) (fun i e j a h1 h2 => ?_) hk.2
  rw [List.getElem?_map, Option.map_eq_some_iff] at h1
  obtain ⟨x, hx, rfl⟩ := h1
  have hj : j = 0 := by have := (List.getElem?_eq_some_iff.1 h2).1; simp [eI64] at this; exact this
  subst hj
  simp only [eI64, List.getElem?_cons_zero, Option.some.injEq] at h2
  subst h2
  have hi := (List.getElem?_eq_some_iff.1 hx).1
  have h3 := congrArg (fun z => z[i]?) hk.1
  simp only [List.getElem?_take, hi, if_true, hx] at h3
  simp [ints, h3]
theorem AW_frzMem {c : Code} {bg : Nat} {rest : List AV} : ∀ (gs : List GR) (pre : List AV) (hp : Heap), (∀ x ∈ gs, x.ok) → Sep h0 hp ((bg, .row (pre ++ gs.map GR.cell ++ rest)) :: gs.map GR.row) →
    (∀ hp', Sep h0 hp' [(bg, .row (pre ++ gs.map grTree ++ rest))] → AW P ρ c Q ⟨n, tm, hp', ms, h0⟩) → AW P ρ c Q ⟨n, tm, hp, ms, h0⟩
  | [], pre, hp, _, hS, kk => kk hp hS
  | g :: gs, pre, hp, hok, hS, kk => by
    have hb := hS.get 1 (b := g.b) (o := .row (ints g.ns)) rfl
    have hc := hS.get 0 (b := bg) rfl
    have hne : bg ≠ g.b := hS.ne (i := 0) (j := 1) rfl rfl (by omega)
    refine AW_ghost (ghost_in (b := g.b) (c := bg) (ds' := pre ++ [grTree g] ++ gs.map GR.cell ++ rest) hb hc hne (by simp) fun i x y hx hy => ?_) ?_
    · have e1 : pre ++ (g :: gs).map GR.cell ++ rest = pre ++ (g.cell :: (gs.map GR.cell ++ rest)) := by simp
      have e2 : pre ++ [grTree g] ++ gs.map GR.cell ++ rest = pre ++ (grTree g :: (gs.map GR.cell ++ rest)) := by simp
      rw [e1] at hx; rw [e2] at hy
      by_cases hi : i < pre.length
      · rw [List.getElem?_append_left hi] at hx hy
        rw [hx] at hy; cases hy
        exact ⟨id, .refl _⟩
      · rw [List.getElem?_append_right (by omega)] at hx hy
        cases hk : i - pre.length with
        | zero =>
          rw [hk] at hx hy; simp only [List.getElem?_cons_zero, Option.some.injEq] at hx hy
          subst hx hy
          exact ⟨fun _ => rfl, frz_gr (hok g (List.mem_cons_self ..))⟩
        | succ k =>
          rw [hk] at hx hy; simp only [List.getElem?_cons_succ] at hx hy
          rw [hx] at hy; cases hy
          exact ⟨id, .refl _⟩
    · refine AW_frzMem gs (pre ++ [grTree g]) _ (fun x hx => hok x (List.mem_cons_of_mem _ hx)) ?_ fun hp' hS' => kk hp' (by simpa using hS')
      have hS2 : Sep h0 hp ((g.b, .row (ints g.ns)) :: (bg, .row (pre ++ (g :: gs).map GR.cell ++ rest)) :: gs.map GR.row) := hS.perm (.swap ..)
      exact (Sep.del hS2).set 0 rfl
theorem AW_frzG {c : Code} {k7 k8 m cap8 : Nat} (h7 : look tm k7 = some (.ip [vg])) (h8 : look tm k8 = some (.ip [.ms bo 0 1 m cap8])) (hl : ofs.length = m) (hcap : m ≤ cap8) (k : GC h0 h vg gs bo ofs) (hok : ∀ x ∈ gs, x.ok) (hne : k7 ≠ k8)
    (kk : ∀ hp', h0.le hp' → AW P ρ c Q ⟨n, (k7, .ip [.sl .any 1 ((gs.map GR.l).map fun x => [.sl .any 1 (x.map eI64)])]) :: (k8, .ip [.sl .any 1 (ofs.map eI64)]) :: tm, hp', ms, h0⟩) : AW P ρ c Q ⟨n, tm, h, ms, h0⟩ := by
  have hof := k.of
  have h7' : look ((k8, .ip [.sl .any 1 (ofs.map eI64)]) :: tm) k7 = some (.ip [vg]) := by rw [look_cons, if_neg (Ne.symm hne)]; exact h7
  have gof : Ghost ⟨n, tm, h, ms, h0⟩ ⟨n, (k8, .ip [.sl .any 1 (ofs.map eI64)]) :: tm, h.upd bo none, ms, h0⟩ := by
    refine ghost_freezeI (σ := ⟨n, tm, h, ms, h0⟩) (b := bo) (cs := ints ofs) hof fun q y hy => ?_
    rw [look_cons] at hy
    by_cases hq : k8 = q
    · rw [if_pos hq] at hy
      injection hy with hy
      subst hy hq
      refine ⟨_, h8, .inr ⟨_, _, rfl, rfl, rfl, .ms 0 1 _ _ (ofs.map eI64) (by simpa using hl) (by simp [eI64]) (fun i e j a h1 h2 => ?_) hcap⟩⟩
      rw [List.getElem?_map, Option.map_eq_some_iff] at h1
      obtain ⟨x, hx, rfl⟩ := h1
      have hj : j = 0 := by have := (List.getElem?_eq_some_iff.1 h2).1; simp [eI64] at this; exact this
      subst hj
      simp only [eI64, List.getElem?_cons_zero, Option.some.injEq] at h2
      subst h2
      simp [ints, hx]
    · rw [if_neg hq] at hy
      exact ⟨y, hy, .inl (.refl _)⟩
  refine AW_ghost gof ?_
  rcases k with ⟨rfl, rfl, kS⟩ | ⟨bg, cap, rest, rfl, hcp, hrl, kS⟩
  · refine AW_ghost (ghost_weak (k := k7) (u := .ip [.sl .any 1 []]) h7' (vr_boxW rfl fun I v hv => ?_)) (kk _ (Sep.del kS).le)
    cases hv with
    | slnil => exact .slnil _ _ (.inr rfl)
    | sl _ _ _ ad cap u ho' _ _ _ _ => exact ho'.2.2.elim
  · refine AW_frzMem gs [] _ hok (Sep.del kS) fun hp' hS' => ?_
    have hb := hS'.get 0 (b := bg) rfl
    refine AW_ghost (σ' := ⟨n, (k7, .ip [.sl .any 1 ((gs.map GR.l).map fun x => [.sl .any 1 (x.map eI64)])]) :: (k8, .ip [.sl .any 1 (ofs.map eI64)]) :: tm, hp'.upd bg none, ms, h0⟩) (ghost_freezeI (σ := ⟨n, _, hp', ms, h0⟩) (b := bg) hb fun q y hy => ?_) (kk _ (Sep.del hS').le)
    rw [look_cons] at hy
    by_cases hq : k7 = q
    · rw [if_pos hq] at hy
      injection hy with hy
      subst hy hq
      refine ⟨_, h7', .inr ⟨_, _, rfl, rfl, rfl, .ms 0 1 _ _ _ (by simp) (fun e he => by obtain ⟨x, _, rfl⟩ := List.mem_map.1 he; rfl) (fun i e j a h1 h2 => ?_) hcp⟩⟩
      rw [List.getElem?_map, List.getElem?_map, Option.map_eq_some_iff] at h1
      obtain ⟨x, hx, rfl⟩ := h1
      rw [Option.map_eq_some_iff] at hx
      obtain ⟨y, hy, rfl⟩ := hx
      have hj : j = 0 := by have := (List.getElem?_eq_some_iff.1 h2).1; simp at this; exact this
      subst hj
      simp only [List.getElem?_cons_zero, Option.some.injEq] at h2
      subst h2
      have hi := (List.getElem?_eq_some_iff.1 hy).1
      rw [Nat.zero_add, Nat.mul_one, Nat.add_zero, List.nil_append, List.getElem?_append_left (by simpa using hi), List.getElem?_map, hy]; rfl
    · rw [if_neg hq] at hy
      exact ⟨y, hy, .inl (.refl _)⟩
theorem grow_put {hq : Heap} {S m b : Nat} {own : Own} {o o' : AObj} (hG : Grow hq S m own hp) (hb : hq b = some o) : Grow (hq.upd b (some o')) S m own (hp.upd b (some o')) := by
  rcases hG with ⟨h1, rfl⟩ | ⟨h1, rfl⟩ | ⟨c, h1, hc, rfl⟩
  · exact .inl ⟨h1, rfl⟩
  · exact .inr (.inl ⟨h1, rfl⟩)
  · have hne : c ≠ b := fun e => by rw [e, hb] at hc; cases hc
    refine .inr (.inr ⟨c, h1, by rw [Heap.upd_other _ hne]; exact hc, ?_⟩)
    funext x
    by_cases e1 : x = c
    · subst e1
      rw [Heap.upd_other _ hne, Heap.upd_same, Heap.upd_same]
    · by_cases e2 : x = b
      · subst e2; rw [Heap.upd_same, Heap.upd_other _ e1, Heap.upd_same]
      · rw [Heap.upd_other _ e2, Heap.upd_other _ e1, Heap.upd_other _ e1, Heap.upd_other _ e2]
theorem MO_dn {x y : Operand} {t : TypeId} {bd j m S : Nat} {own : Own} {hq : Heap} {dn : List Bool} {v : Bool} (ho : o.op = .store t x y) (ht : TyF P t .bool 1) (hx : ev σ.tm x = some (.ptr bd j)) (hy : ev σ.tm y = some (.lit (.bool v))) (hS : Sep h0 hq [(bd, .row (bools dn))]) (hG : Grow hq S m own σ.h) (hj : j < dn.length) :
    MO P ρ o σ (fun u h' => u = .junk ∧ ∃ hq', Sep h0 hq' [(bd, .row (bools (dn.set j v)))] ∧ Grow hq' S m own h') :=
  MO_heap (MO_stb ho ht hx hy (hG.le _ _ (hS.get 0 rfl)) hj) fun v h' ⟨e1, e2⟩ => ⟨e1, _, hS.set 0 rfl, by rw [e2]; exact grow_put hG (hS.get 0 rfl)⟩
end
theorem mid_get {β γ : Type} {f : β → β} {k : β → γ} {out : List β} {i : Nat} {C : β} (hC : out[i]? = some C) : (((out.take i).map f ++ (out.drop i).map id).map k)[i]? = some (k C) := by
  have hi := (List.getElem?_eq_some_iff.1 hC).1
  have hl : ((out.take i).map f).length = i := by simp; omega
  rw [List.getElem?_map, List.getElem?_append_right (by omega), hl, Nat.sub_self, List.map_id, List.getElem?_drop, Nat.add_zero, hC]; rfl
theorem gmap {α β : Type} {f : α → β} {l : List α} {i : Nat} {r : α} (h : l[i]? = some r) : (l.map f)[i]? = some (f r) := by rw [List.getElem?_map, h]; rfl
theorem hd_mem {C : List Int} (h : C ≠ []) : C.headD 0 ∈ C ∧ (C.map eI64)[0]? = some (eI64 (C.headD 0)) := by
  cases C with
  | nil => exact absurd rfl h
  | cons x l => exact ⟨List.mem_cons_self .., rfl⟩
theorem nm_at {g : Graph} {x : Int} (h : 0 ≤ x ∧ x.toNat < g.names.length) : (g.names.map eTerm)[x.toNat]? = some (eTerm (nmA g x.toNat)) := by
  rw [List.getElem?_map, nmA_get h.2]; rfl
theorem sortG2_ {g : Graph} (hnd : g.names.Nodup) {b : Nat} {ns : List Int} {h : Heap} (C : List Nat) (hm : 0 < g.names.length) (hC : ∀ x ∈ C, x < g.names.length) (hb : h b = some (.row (ints ns))) (hk : GR.ok ⟨b, nI C, ns⟩) (hsz : C.length < 4611686018427387904) :
    AFn PR (.fn (.func 14) [] []) [.ms b 0 1 (nI C).length ns.length, .fn (.func 15) [] [.ip [.ip (eGraph g)]]] h (fun a h' => a = .junk ∧ h' = h.upd b (some (.row (ints (nI (srtG g C) ++ ns.drop C.length))))) := by
  have h1 := hk.1; have h2 := hk.2
  simp only [nI_len] at h1 h2 ⊢
  exact sortG_ hnd hm C hC hb h1 h2 hsz
def CompR (l : List Rule) (a : AV) : Prop := (progU l ≠ 0 ∧ a = .tup [.sl .any 1 [], .lit (.int .i64 (progU l))]) ∨
  (progU l = 0 ∧ ∃ out ofs, Parts (seeG l) out ∧ OfOk out out.length ofs (seeG l).names.length ∧ a = .tup [.sl .any 1 ((ansF (seeG l) ofs (glOf (seeG l) out) (glOf (seeG l) out).length (List.replicate (glOf (seeG l) out).length false) []).map fun ts => [.sl .any 3 (ts.map eTerm)]), .lit (.int .i64 0)])
end Go.AM.Tryd
end
