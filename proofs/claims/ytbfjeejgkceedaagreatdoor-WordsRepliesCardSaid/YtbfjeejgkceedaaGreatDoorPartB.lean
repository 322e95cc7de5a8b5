import Derived.Test.YtbfjeejgkceedaaGreatDoorPartA
import Derived.Laws.IdiomCopy
import Derived.Laws.Tables
import Derived.Great.BuildSlice
import Derived.Laws.AppendOwn
import Derived.Laws.Slices
import Derived.Laws.MakeOwn
namespace Go.RX

section lists
variable {α β : Type}
def setAt : List α → Nat → List α → List α
  | l, _, [] => l
  | l, off, d :: ds => setAt (l.set off d) (off + 1) ds
theorem setCells_eq : ∀ (ds : List D) (cs : List D) (off : Nat), setCells cs off ds = setAt cs off ds
  | [], _, _ => rfl
  | d :: ds, cs, off => by simp only [setCells, setAt]; exact setCells_eq ds _ _
theorem setRange_eq : ∀ (ds : List SV) (cs : List SV) (off : Nat), setRange cs off ds = setAt cs off ds
  | [], _, _ => rfl
  | d :: ds, cs, off => by simp only [setRange, setAt]; exact setRange_eq ds _ _
theorem setAt_length : ∀ (ds l : List α) (off : Nat), (setAt l off ds).length = l.length
  | [], _, _ => rfl
  | d :: ds, l, off => by simp only [setAt]; rw [setAt_length ds]; simp
theorem setAt_right : ∀ (ds A l : List α) (off : Nat), setAt (A ++ l) (A.length + off) ds = A ++ setAt l off ds
  | [], _, _, _ => rfl
  | d :: ds, A, l, off => by
    simp only [setAt]
    rw [List.set_append_right _ _ (by omega), show A.length + off - A.length = off by omega, show A.length + off + 1 = A.length + (off + 1) by omega]
    exact setAt_right ds A _ _
theorem setAt_left : ∀ (ds l C : List α) (off : Nat), off + ds.length ≤ l.length → setAt (l ++ C) off ds = setAt l off ds ++ C
  | [], _, _, _, _ => rfl
  | d :: ds, l, C, off, h => by
    simp only [List.length_cons] at h
    simp only [setAt]
    rw [List.set_append_left _ _ (by omega)]
    exact setAt_left ds _ C _ (by simp; omega)
theorem setAt_take : ∀ (ds l : List α) (off n : Nat), (setAt l off ds).take n = setAt (l.take n) off ds
  | [], _, _, _ => rfl
  | d :: ds, l, off, n => by
    simp only [setAt]
    rw [setAt_take ds, List.take_set]
theorem modify_split : ∀ (es : List α) (i : Nat) (f : α → α) {x : α}, es[i]? = some x → es.modify i f = es.take i ++ f x :: es.drop (i + 1)
  | [], i, f, x, h => by simp at h
  | y :: es, 0, f, x, h => by simp at h; subst h; simp
  | y :: es, i + 1, f, x, h => by
    have := modify_split es i f (by simpa using h)
    simp [this]
theorem modify_mem (es : List α) (i : Nat) (f : α → α) {Q : α → Prop} (h : ∀ x ∈ es, Q x) (hf : ∀ x, Q x → Q (f x)) : ∀ x ∈ es.modify i f, Q x := by
  intro x hx
  obtain ⟨j, hj⟩ := List.mem_iff_getElem?.1 hx
  rw [List.getElem?_modify] at hj
  cases hy : es[j]? with
  | none => rw [hy] at hj; simp at hj
  | some y =>
    rw [hy] at hj
    have hq := h y (List.mem_of_getElem? hy)
    simp only [Option.map_eq_map, Option.map_some, Option.some.injEq] at hj
    subst hj
    split
    · exact hf y hq
    · exact hq
theorem flatten_modify (es : List (List α)) (k i off : Nat) (ds : List α) (hk : ∀ x ∈ es, x.length = k) (hi : i < es.length) (h : off + ds.length ≤ k) :
    (es.modify i fun e => setAt e off ds).flatten = setAt es.flatten (i * k + off) ds := by
  have hx : es[i]? = some es[i] := List.getElem?_eq_getElem hi
  have hxk : es[i].length = k := hk _ (List.getElem_mem hi)
  rw [modify_split es i _ hx]
  have e : es.flatten = (es.take i).flatten ++ (es[i] ++ (es.drop (i + 1)).flatten) := by
    have := congrArg List.flatten (List.take_append_drop i es)
    rw [List.flatten_append, List.drop_eq_getElem_cons hi, List.flatten_cons] at this
    exact this.symm
  have hl : (es.take i).flatten.length = i * k := by
    rw [flatten_len _ k (fun x hx => hk x (List.mem_of_mem_take hx)), List.length_take, Nat.min_eq_left (Nat.le_of_lt hi)]
  rw [e, ← hl, setAt_right, setAt_left _ _ _ _ (by omega)]
  simp
end lists

section
variable {P : Program} {B : Base} {ρ : List D} {S : SSt} {a : Act} {w w' : World} {m : Pl} {n : Nat} {o : Oper} {r : Out} {av : Av} {H : List SObj}

theorem RepL.set {ts : List TypeId} {vs : List Value} {ds : List D} : RepL P w av ts vs ds → ∀ {i : Nat} {t : TypeId} {v : Value} {d : D}, ts[i]? = some t → Rep P w av t v d → RepL P w av ts (vs.set i v) (ds.set i d)
  | .nil, i, t, v, d, h, _ => by simp at h
  | .cons r l, 0, t, v, d, h, hr => by simp at h; subst h; exact .cons hr l
  | .cons r l, i + 1, t, v, d, h, hr => .cons r (l.set (by simpa using h) hr)
theorem RepL.setAt : ∀ {us : List TypeId} {vs' : List Value} {ds' : List D}, RepL P w av us vs' ds' → ∀ {ts : List TypeId} {vs : List Value} {ds : List D} {off : Nat}, RepL P w av ts vs ds → (∀ j t, us[j]? = some t → ts[off + j]? = some t) →
    RepL P w av ts (RX.setAt vs off vs') (RX.setAt ds off ds')
  | _, _, _, .nil, _, _, _, _, h, _ => h
  | _, _, _, .cons (t := t) r l, ts, vs, ds, off, h, hu => by
    simp only [RX.setAt]
    exact RepL.setAt l (h.set (hu 0 _ rfl) r) (fun j t hj => by rw [show off + 1 + j = off + (j + 1) by omega]; exact hu (j + 1) t (by simpa using hj))
theorem RepSs.setAt : ∀ {ss' : List SV} {vs' : List Value}, RepSs P w av m ρ ss' vs' → ∀ {ss : List SV} {vs : List Value} (off : Nat), RepSs P w av m ρ ss vs → RepSs P w av m ρ (RX.setAt ss off ss') (RX.setAt vs off vs')
  | [], [], _, _, _, _, h => h
  | s :: ss', v :: vs', hr, ss, vs, off, h => by
    simp only [RX.setAt]
    exact RepSs.setAt hr.2 (off + 1) (h.set off hr.1)
  | [], _ :: _, hr, _, _, _, _ => hr.elim
  | _ :: _, [], hr, _, _, _, _ => hr.elim

/-! What writing cells does to the memory. -/
theorem setCells_block : ∀ (vs : List Value) (b off : Nat) (w : World) {cur : Array Value} {T : TypeId} {fz : Nat × Nat}, w.heap[b]? = some (.cells cur T fz) → (w.setCells b off vs).heap[b]? = some (.cells (setAt cur.toList off vs).toArray T fz)
  | [], b, off, w, cur, T, fz, h => by simpa [World.setCells, setAt] using h
  | v :: vs, b, off, w, cur, T, fz, h => by
    simp only [World.setCells, setAt]
    have h1 : (w.setCell ⟨b, off, none⟩ v).heap[b]? = some (.cells (cur.setIfInBounds off v) T fz) := by
      simp [World.setCell, Array.getElem?_modify, h]
    have := setCells_block vs b (off + 1) _ h1
    simpa using this
theorem setCells_ext : ∀ (vs : List Value) (b off : Nat) (w : World), Ext (fun x => x = b) w (w.setCells b off vs)
  | [], b, off, w => Ext.refl _ _
  | v :: vs, b, off, w => by
    have h1 : Ext (fun x => x = b) w (w.setCell ⟨b, off, none⟩ v) := by
      refine ⟨rfl, rfl, rfl, by simp [World.setCell], fun x _ hx => ?_⟩
      simp [World.setCell, Array.getElem?_modify, Ne.symm hx]
    exact h1.trans (setCells_ext vs b (off + 1) _) (fun _ _ h => h)

/-! One object is turned in its place. -/
theorem keepsAv_turn {o : Nat} {p : Place} {b : Nat} {ob' : SObj} (hp : m o = some p) (hb : p.block = some b) (hw : ∀ off, region P ρ (hget H o) off) (hx : Ext (fun x => x = b) w w') :
    KeepsAv (avOf P m ρ B.fr H) w w' (avOf P m ρ B.fr (hset H o ob')) := by
  intro x off v hv ha
  have hne : x ≠ b := fun e => ha (.inr ⟨o, p, hp, e ▸ hb, hw off⟩)
  refine ⟨by rw [cell?_of_heap_eq (hx.block x (World.block_lt_of_cell? w ⟨x, off, none⟩ hv) hne)]; exact hv, ?_⟩
  rintro (hF | ⟨o', q, hq, hqb, hr⟩)
  · exact ha (.inl hF)
  by_cases e : o' = o
  · subst e; rw [hp] at hq; cases hq; rw [hb] at hqb; cases hqb; exact hne rfl
  · rw [hget_hset, if_neg e] at hr
    exact ha (.inr ⟨o', q, hq, hqb, hr⟩)
theorem Step.turn (h : Sim P B ρ H m w) {o : Nat} {p : Place} {b : Nat} {ob' : SObj} (hp : m o = some p) (hb : p.block = some b) (hw : ∀ off, region P ρ (hget H o) off) (hwr : writable (hget H o)) (hx : Ext (fun x => x = b) w w')
    (hok : ObjOk P w' (avOf P m ρ B.fr (hset H o ob')) m ρ (some p) ob') {val : SV} {v : Value} (hv : RepS P w' (avOf P m ρ B.fr (hset H o ob')) m ρ val v) : Step P B ρ H m w [(o, ob')] val m w' v := by
  have hk := keepsAv_turn (B := B) (ob' := ob') hp hb hw hx
  refine ⟨?_, Pl.le_refl m, hk, hv, fun _ h _ => h⟩
  refine h.update (fun o' => o' = o) (fun o' ho => by simp only [hsets]; rw [hget_hset, if_neg ho]) (Pl.le_refl m) (fun _ _ => rfl) hk ?_ ?_ ?_ ?_
  · exact ⟨hx.os, hx.tape, hx.output, hx.size, fun x hxl hn => hx.block x hxl (fun e => hn ⟨o, p, rfl, hwr, hp, e ▸ hb⟩)⟩
  · rintro o' rfl
    simp only [hsets]; rw [hp, hget_hset, if_pos rfl]; exact hok
  · rintro o' q b' rfl _ hq hqb
    exact .inr ⟨_, q, rfl, hwr, hq, hqb⟩
  · rintro o' o'' q q' b' rfl rfl _ _ _ _ _ _; rfl

/-- Cells are written. -/
theorem storeAt_run {t : TypeId} (h : sizeOk P t = true) {b off : Nat} {v : Value} (hl : v.cells.size = (cellTys P t).length) {cur : Array Value} {T : TypeId} {fz : Nat × Nat} (hg : w.heap[b]? = some (.cells cur T fz)) (hfz : fz = (0, 0)) (hle : off + v.cells.size ≤ cur.size)
    (h1 : ∀ u ∈ v.cells.toList, u.oneCell' = true) : (Instr.storeAt t (.pointer (some ⟨b, off, none⟩)) v).run P w = .ok () (w.setCells b off v.cells.toList) := by
  simp only [Instr.storeAt, Instr.sureAddr, Sem.run_bind, Sem.run_pure, Result.andThen_ok, storeVar, sizeOk_run h, hl, ne_eq, not_true_eq_false, if_false]
  refine run_storeCells_cells b off _ 0 w (fun j hj => ?_) (fun j hj => ?_) h1
  · rw [cell_of_row w b _ cur T fz hg]
    simp at hj
    simp; omega
  · subst hfz
    simp [World.frozen?, hg]

theorem symStore_ok (hM : Mod P B ρ S a w m) {t : TypeId} {p s : SV} {v u : Value} (hp : RepS P w (avOf P m ρ B.fr S.heap) m ρ p v) (hs : RepS P w (avOf P m ρ B.fr S.heap) m ρ s u) (h : symStore P S t p s = some r) :
    ∃ w', (Instr.storeAt t v u).run P w = .ok () w' ∧ Step P B ρ S.heap m w r.sets r.val m w' Go.undef ∧ r.chks = [] := by
  unfold symStore at h
  dsimp only at h
  split at h
  · cases h
  rename_i hsz
  simp only [Bool.not_eq_true, Bool.not_eq_false'] at hsz
  split at h
  · rename_i o off
    split at h
    · rename_i cs hob
      split at h
      · rename_i vs hvs
        split at h
        · rename_i hc
          simp only [Bool.and_eq_true, beq_iff_eq, decide_eq_true_eq] at hc
          obtain ⟨⟨hl, hle⟩, hst⟩ := hc
          cases h
          simp only [RepS] at hp
          obtain ⟨q, b, hq, hqv, rfl⟩ := hp
          have hok := hM.sim.ok o
          rw [hob] at hok
          obtain ⟨b', cur, T, h1, h2, h3⟩ := hok
          rw [hq] at h1; cases h1; cases hqv
          have hcs := cellsOf_rep hvs hs
          have hcl := repSL_toL _ h3
          have e1 : u.cells.size = (cellTys P t).length := by rw [← hl, hcs.length]; simp
          have e2 : cur.size = cs.toL.length := by rw [hcl.length]; simp
          refine ⟨_, storeAt_run hsz e1 h2 rfl (by omega) (storables_one hst hcs), ?_, rfl⟩
          have hx := setCells_ext u.cells.toList b off w
          have hk := keepsAv_turn (P := P) (B := B) (ρ := ρ) (H := S.heap) (ob' := .box (.ofL (setRange cs.toL off vs))) hq rfl (by rw [hob]; simp [region]) hx
          refine Step.turn hM.sim hq rfl (by rw [hob]; simp [region]) (by rw [hob]; trivial) hx ?_ (by simp [RepS])
          refine ⟨b, _, T, rfl, setCells_block _ b off w h2, repSL_ofL.2 ?_⟩
          have key := RepSs.setAt hcs off hcl
          rw [← setRange_eq] at key
          have := repSL_ofL.2 key
          exact repSL_ofL.1 (RepSL.keeps hk (Pl.le_refl m) _ (by simpa using this))
        · cases h
      · cases h
    · cases h
  · rename_i e rr i off
    split at h
    · rename_i e' c hob
      split at h
      · rename_i hc
        simp only [Bool.and_eq_true, beq_iff_eq, bne_iff_ne, ne_eq] at hc
        obtain ⟨⟨rfl, hn0⟩, htys⟩ := hc
        split at h
        · rename_i vs hvs
          split at h
          · rename_i x fr hd
            split at h
            · cases h
            · rename_i hnc
              cases h
              simp only [RepS] at hp
              obtain ⟨q, b, n', cap, hq, hqv, hi0, hi, rfl⟩ := hp
              have hf := FrozIn.frost S.heap fr
              have hsim := hM.sim.froz hf.1
              have hnot : hget (hsets S.heap (frost S.heap fr)) rr = .row e c true := by
                rw [hget_hsets_out _ _ _ (fun q' hq' e' => hnc (by simpa [e'] using (frost_ids fr q' hq').1)), hob]
              have hok := hsim.ok rr
              rw [hnot, hq] at hok
              have hcs := cellsOf_rep hvs hs
              obtain ⟨ds, hds, hrd⟩ := dataCells_rep (H' := hsets S.heap (frost S.heap fr)) hM.sim hd hcs hf
              have hel := hrd.length_tys
              obtain ⟨hn, hb, _⟩ := row_elem hok hqv hi
              obtain ⟨es, xs, pv, h1, h2, h3, h4, h5, h6⟩ := hok
              cases h1
              have hes : (c.den ρ).toSl = es := by rw [h2]; rfl
              rw [hes] at hn
              simp only at hqv
              rcases h4.2 with ⟨hv, _⟩ | ⟨g, cap', cur, hv, hg0, hg, hnc', hcm, hcz, htake⟩
              · rw [hv] at hqv; cases hqv
              rw [hv] at hqv; cases hqv
              generalize hN : es.length = N at *
              have hk0 : off + (cellTys P t).length ≤ (cellTys P e).length := by
                have := congrArg List.length htys
                rw [List.length_take, List.length_drop] at this
                omega
              have e1 : u.cells.size = (cellTys P t).length := by rw [← hel]; simp
              have e3 : u.cells.toList.length = (cellTys P t).length := hel
              have hIk : (i.den ρ).toInt.toNat * (cellTys P e).length + (cellTys P e).length ≤ N * (cellTys P e).length := by
                rw [← Nat.succ_mul]; exact Nat.mul_le_mul_right _ hi
              have hNc : N * (cellTys P e).length ≤ cap * (cellTys P e).length := Nat.mul_le_mul_right _ hnc'
              have hx := setCells_ext u.cells.toList b ((i.den ρ).toInt.toNat * (cellTys P e).length + off) w
              have hk := keepsAv_turn (P := P) (B := B) (ρ := ρ) (H := hsets S.heap (frost S.heap fr)) (ob' := .row e (.upd c i off x) true) hq hb (by rw [hnot]; simp [region]) hx
              refine ⟨_, storeAt_run hsz e1 hg rfl (by omega) (hrd.oneCells (fun u hu => cellTys_flat hu)), Step.froz hM.sim (Step.turn hsim hq hb (by rw [hnot]; simp [region]) (by rw [hnot]; trivial) hx ?_ (by simp [RepS])), rfl⟩
              have hmod : (X.upd c i off x).den ρ = .sl (es.modify (i.den ρ).toInt.toNat fun e => setAt e off ds) := by
                simp only [X.den, hes, hds, aggL_agg, setCells_eq]
              have hlm : (es.modify (i.den ρ).toInt.toNat fun e => setAt e off ds).length = N := by rw [List.length_modify, hN]
              have hxs : xs.length = N * (cellTys P e).length := h4.1
              refine ⟨_, setAt xs ((i.den ρ).toInt.toNat * (cellTys P e).length + off) u.cells.toList, _, rfl, hmod, ?_, ?_, ?_, ?_⟩
              · exact ⟨by rw [hlm, ← hN]; exact h3.1, fun b hb => by rw [hlm, ← hN]; exact h3.2 b hb⟩
              · rw [hlm]
                refine ⟨by rw [setAt_length]; exact hxs,   .inr ⟨b, cap, _, hv, hg0, setCells_block _ b _ w hg, hnc', hcm, ?_, ?_⟩⟩
                · simp only [List.size_toArray, setAt_length, Array.length_toList]; exact hcz
                · show (setAt cur.toList _ _).take _ = _
                  rw [setAt_take, htake]
              · exact modify_mem es _ _ h5 (fun y hy => by rw [setAt_length]; exact hy)
              · rw [hlm, flatten_modify es (cellTys P e).length _ _ _ h5 (by omega) (by rw [hrd.length_ds]; omega)]
                refine RepL.keeps hk (RepL.setAt hrd h6 (fun j t' hj => ?_))
                have hj' : j < (cellTys P t).length := (List.getElem?_eq_some_iff.1 hj).1
                rw [← htys, List.getElem?_take, if_pos hj', List.getElem?_drop] at hj
                have := congrArg (·[off + j]?) (rowTys_seg (P := P) (e := e) hi)
                simp only [List.getElem?_take, List.getElem?_drop] at this
                rw [if_pos (by omega)] at this
                rw [Nat.add_assoc, this, hj]
          · cases h
        · cases h
      · cases h
    · cases h
  · cases h
end
end Go.RX
namespace Go.RX

section lists
variable {α : Type}
theorem foldl_zipIdx_set (off : Nat) : ∀ (l : List α) (k : Nat) (cells : Array α), (l.zipIdx k).foldl (fun cs (c, j) => cs.setIfInBounds (off + j) c) cells = (setAt cells.toList (off + k) l).toArray
  | [], k, cells => by simp [setAt]
  | c :: l, k, cells => by
    simp only [List.zipIdx_cons, List.foldl_cons, setAt]
    rw [foldl_zipIdx_set off l (k + 1)]
    simp [Nat.add_assoc]
theorem replicate_flatten_get (l : List α) : ∀ (n j : Nat), (List.replicate n l).flatten[j]? = if j < n * l.length then l[j % l.length]? else none
  | 0, j => by simp
  | n + 1, j => by
    rw [List.replicate_succ, List.flatten_cons, List.getElem?_append, replicate_flatten_get l n]
    rw [Nat.succ_mul]
    by_cases h : j < l.length
    · rw [if_pos h, if_pos (by omega), Nat.mod_eq_of_lt h]
    · rw [if_neg h, show j % l.length = (j - l.length) % l.length from Nat.mod_eq_sub_mod (by omega)]
      by_cases h2 : j - l.length < n * l.length
      · rw [if_pos h2, if_pos (by omega)]
      · rw [if_neg h2, if_neg (by omega)]
end lists

section
variable {P : Program} {B : Base} {ρ : List D} {S : SSt} {a : Act} {w w' : World} {m : Pl} {n : Nat} {o : Oper} {r : Out} {av : Av} {H : List SObj}

theorem zeroCells_info {t : TypeId} {cs : List SV} (h : zeroCells P t = some cs) : ∃ i z, P.info? t = some i ∧ i.zero = some z ∧ ∀ (w : World) (av : Av) (m : Pl) (ρ : List D), RepSs P w av m ρ cs z.cells.toList := by
  have h' := h
  unfold zeroCells at h
  split at h
  · rename_i i hi
    cases hz : i.zero with
    | none => rw [hz] at h; cases h
    | some z =>
      refine ⟨i, z, hi, hz, fun w av m ρ => ?_⟩
      obtain ⟨v, hv, hr⟩ := zeroCells_rep (P := P) (w := w) (m := m) (ρ := ρ) (av := av) h'
      simp only [zeroValue, typeInfo, Sem.run_bind, run_program, Result.andThen_ok, hi, Sem.run_pure, hz] at hv
      cases hv
      exact hr
  · cases h

theorem fill_rep {pl : Nat → Option (Nat × TypeId)} {place : Nat → Option (Nat × Nat)} (hM : Mod P B ρ S a w m)
    (hpl : ∀ i off u, pl i = some (off, u) → sizeOk P u = true → place i = some (off, (cellTys P u).length)) :
    ∀ (parts : List (Nat × Operand)) {cs cs' : List SV} {cells : Array Value}, fillParts P S pl cs parts = some cs' → RepSs P w (avOf P m ρ B.fr S.heap) m ρ cs cells.toList →
      ∃ cells', Instr.fill place cells (parts.map fun p => (p.1, a.eval p.2)) = some cells' ∧ RepSs P w (avOf P m ρ B.fr S.heap) m ρ cs' cells'.toList ∧ cells'.size = cells.size
  | [], cs, cs', cells, h, hr => by simp [fillParts] at h; subst h; exact ⟨cells, rfl, hr, rfl⟩
  | (i, x) :: parts, cs, cs', cells, h, hr => by
    simp only [fillParts] at h
    split at h
    · cases h
    · rename_i off u hp
      split at h
      · cases h
      · rename_i vs hvs
        split at h
        · rename_i hc
          simp only [Bool.and_eq_true, beq_iff_eq, decide_eq_true_eq] at hc
          obtain ⟨⟨hs, hl⟩, hle⟩ := hc
          have hv := cellsOf_rep hvs (opv_rep hM x u)
          have e1 : (a.eval x).cells.size = (cellTys P u).length := by rw [← hl, hv.length]; simp
          have e2 : cells.size = cs.length := by rw [hr.length]; simp
          have key := hv.setAt off hr
          rw [← setRange_eq] at key
          have e3 : (RX.setAt cells.toList (off + 0) (a.eval x).cells.toList).toArray.toList = RX.setAt cells.toList off (a.eval x).cells.toList := by simp
          obtain ⟨cells', h1, h2, h3⟩ := fill_rep hM hpl parts (cells := (RX.setAt cells.toList (off + 0) (a.eval x).cells.toList).toArray) h (by rw [e3]; exact key)
          refine ⟨cells', ?_, h2, by rw [h3]; simp [setAt_length]⟩
          simp only [List.map_cons, Instr.fill, hpl i off u hp hs]
          rw [if_neg (by simp [e1]; omega)]
          have := foldl_zipIdx_set off (a.eval x).cells.toList 0 cells
          rw [← Array.foldl_toList, Array.toList_zipIdx, this]
          exact h1
        · cases h

theorem places_all : ∀ (fs : List Field), (fs.all fun f => (P.info? f.type).isSome) = true → fs.mapM (fun f => (P.info? f.type).map fun i => (f.offset, i.size)) = some (fs.map fun f => (f.offset, (sizeOf' P f.type).getD 0))
  | [], _ => by simp
  | f :: fs, h => by
    simp only [List.all_cons, Bool.and_eq_true] at h
    obtain ⟨i, hi⟩ := Option.isSome_iff_exists.1 h.1
    simp [places_all fs h.2, hi, sizeOf']

theorem build_run (hM : Mod P B ρ S a w m) {t : TypeId} {parts : Array (Nat × Operand)} {z cs : List SV} (hz : zeroCells P t = some z) (h : fillParts P S (partPlace P t) z parts.toList = some cs) (hp : placesOk P t = true) :
    ∃ cells, (Instr.build t (parts.map fun (i, x) => (i, a.eval x))).run P w = .ok (.agg cells) w ∧ RepSs P w (avOf P m ρ B.fr S.heap) m ρ cs cells.toList := by
  obtain ⟨i, zv, hi, hzv, hzr⟩ := zeroCells_info hz
  have e : (parts.map fun (x : Nat × Operand) => (x.1, a.eval x.2)).toList = parts.toList.map fun p => (p.1, a.eval p.2) := by simp
  unfold placesOk at hp
  split at hp
  · rename_i fs hfs
    obtain ⟨cells, h1, h2, _⟩ := fill_rep (pl := partPlace P t) (place := ((fs.toList.map fun f => (f.offset, (sizeOf' P f.type).getD 0)).toArray[·]?)) hM (fun i off u hi hs => by
      unfold partPlace at hi
      rw [hfs] at hi
      simp only at hi
      split at hi
      · rename_i f hf
        cases hi
        have : fs.toList[i]? = some f := by simpa using hf
        simp [this, (sizeOk_eq hs).1]
      · cases hi) parts.toList h (hzr _ _ _ _)
    refine ⟨cells, run_build w t _ cells ?_, h2⟩
    unfold Program.built
    rw [hi, hfs]
    simp only [hzv, places_all fs.toList hp]
    rw [e]; exact h1
  · rename_i k el hfs
    obtain ⟨ie, hie⟩ := Option.isSome_iff_exists.1 hp
    obtain ⟨cells, h1, h2, _⟩ := fill_rep (pl := partPlace P t) (place := fun i => some (i * ie.size, ie.size)) hM (fun i off u hi hs => by
      unfold partPlace at hi
      rw [hfs] at hi
      simp only at hi
      split at hi
      · cases hi
        have := (sizeOk_eq hs).1
        simp only [sizeOf', hie, Option.map_some, Option.some.injEq] at this
        rw [this]
      · cases hi) parts.toList h (hzr _ _ _ _)
    refine ⟨cells, run_build w t _ cells ?_, h2⟩
    unfold Program.built
    rw [hi, hfs]
    simp only [hzv, hie]
    rw [e]; exact h1
  · cases hp

/-- A new block of cells. -/
theorem Step.layBox (h : Sim P B ρ H m w) (hn : m n = none) {cs : List SV} {cells : Array Value} {T : TypeId} (hr : RepSs P w (avOf P m ρ B.fr H) m ρ cs cells.toList) :
    Step P B ρ H m w [(n, .box (.ofL cs))] (.ptr n 0) (upd m n ⟨some w.heap.size, .pointer (some ⟨w.heap.size, 0, none⟩)⟩) (w.alloc (.cells cells T)) (.pointer (some ⟨w.heap.size, 0, none⟩)) := by
  have hx := Ext.alloc w (.cells cells T)
  have hp : ∀ b, (⟨some w.heap.size, .pointer (some ⟨w.heap.size, 0, none⟩)⟩ : Place).block = some b → w.heap.size ≤ b := fun b hb => by cases hb; exact Nat.le_refl _
  refine Step.lay (ob := .box (.ofL cs)) h hn hx hp ⟨w.heap.size, cells, T, rfl, heap_alloc_new w _, ?_⟩ ?_
  · exact RepSL.keeps (keepsAv_lay (B := B) (n := n) (ob := .box (.ofL cs)) (fun b hb => hx.block b hb (fun f => f)) hp) (upd_le hn _) _ (repSL_ofL.2 hr)
  · simp only [RepS]
    exact ⟨_, w.heap.size, upd_same .., rfl, rfl⟩
/-- A new block that nobody names but its value. -/
theorem Step.layNone (h : Sim P B ρ H m w) (hx : Ext (fun _ => False) w w') {val : SV} {v : Value} (hv : RepS P w' (avOf P m ρ B.fr H) m ρ val v) : Step P B ρ H m w [] val m w' v := by
  have hk : KeepsAv (avOf P m ρ B.fr H) w w' (avOf P m ρ B.fr H) := fun b off u hu ha => ⟨by rw [cell?_of_heap_eq (hx.block b (World.block_lt_of_cell? w ⟨b, off, none⟩ hu) (fun f => f))]; exact hu, ha⟩
  refine ⟨?_, Pl.le_refl m, hk, hv, fun _ h _ => h⟩
  refine h.update (fun _ => False) (fun _ _ => rfl) (Pl.le_refl m) (fun _ _ => rfl) hk ?_ (fun _ f => f.elim) (fun _ _ _ f => f.elim) (fun _ _ _ _ _ f => f.elim)
  exact ⟨hx.os, hx.tape, hx.output, hx.size, fun b hb _ => hx.block b hb (fun f => f)⟩
end
end Go.RX
namespace Go.RX

section
variable {P : Program} {B : Base} {ρ : List D} {S : SSt} {a : Act} {w w' : World} {m : Pl} {n : Nat} {o : Oper} {r : Out} {av : Av} {H H' : List SObj}

/-- what elements lie in memory -/
theorem RepE.vals {e : TypeId} {b off : Nat} {es : List (List D)} : RepE P w av e b off es → ∃ vs : List Value, RepL P w av (rowTys P e es.length) vs es.flatten ∧ ∀ j v, vs[j]? = some v → w.cell? ⟨b, off + j, none⟩ = some v
  | .nil => ⟨[], .nil, by simp⟩
  | .cons (cs := cs) mm l => by
    obtain ⟨vs1, h1, h2⟩ := mm.vals
    obtain ⟨vs2, h3, h4⟩ := l.vals
    refine ⟨vs1 ++ vs2, ?_, fun j v hj => ?_⟩
    · simp only [rowTys, List.length_cons, List.replicate_succ, List.flatten_cons]
      exact h1.append h3
    · have hl := h1.length_tys
      have hm := mm.length_ds
      rw [List.getElem?_append] at hj
      split at hj
      · exact h2 j v hj
      · have := h4 _ v hj
        rwa [show off + cs.length + (j - vs1.length) = off + j by omega] at this
theorem rowTys_flat {e : TypeId} {n : Nat} : ∀ u ∈ rowTys P e n, isAg P u = false := by
  intro u hu
  rw [rowTys, List.mem_flatten] at hu
  obtain ⟨l, hl, h⟩ := hu
  rw [List.mem_replicate] at hl
  rw [hl.2] at h
  exact cellTys_flat h

/-- what is to be appended -/
structure Adds (P : Program) (w : World) (av : Av) (e u : TypeId) (x : Value) (es : List (List D)) (news : List Value) : Prop where
  kind : (∃ e', P.underlying u = some (.slice e')) ∨ P.underlying u = some .string
  len : ∀ w', (Builtin.lenOf x).run P w' = .ok es.length w'
  cells : ∀ w', w'.heap = w.heap → (Builtin.firstCells (cellTys P e).length es.length x).run P w' = .ok news.toArray w'
  rep : RepL P w av (rowTys P e es.length) news es.flatten
  lens : ∀ x ∈ es, x.length = (cellTys P e).length

theorem adds_slice {e u : TypeId} (hu : P.underlying u = some (.slice e)) {x : Value} {d : D} (h : Rep P w av u x d) : ∃ news, Adds P w av e u x d.toSl news := by
  obtain ⟨hd, hsl, ad, cap, rfl, h0 | ⟨b, off, rfl, hcap, hE⟩⟩ := h.ofSl hu
  · refine ⟨[], .inl ⟨_, hu⟩, fun _ => rfl, fun w' _ => ?_, ?_, by simp [h0]⟩
    · rw [h0]
      cases ad <;> simp [Builtin.firstCells, loadCells, loadCellsFrom]
    · rw [h0]; exact .nil
  · obtain ⟨vs, h1, h2⟩ := hE.vals
    refine ⟨vs, .inl ⟨_, hu⟩, fun _ => rfl, fun w' hw => ?_, h1, hE.lens⟩
    refine run_firstCells_some w' _ _ ⟨b, off, none⟩ _ _ vs (by rw [h1.length_tys, rowTys_len]) (fun j v hj => ?_)
    rw [Addr.add_lit, cell?_of_heap_eq (w := w) (by rw [hw])]
    exact h2 j v hj
theorem adds_string {e u : TypeId} (hu : P.underlying u = some .string) (he : P.underlying e = some (.int .u8)) {x : Value} {d : D} (h : Rep P w av u x d) : ∃ news, Adds P w av e u x (d.toStr.map fun c => [.int c.toNat]) news := by
  obtain ⟨rfl, hd, hl⟩ := h.ofStr hu
  have hc : cellTys P e = [e] := cellTys_one (by simp [isAg, he])
  refine ⟨d.toStr.map fun c => .int .u8 c.toNat, .inr hu, fun _ => by simp [Builtin.lenOf, ByteArray.size], fun w' _ => ?_, ?_, by simp [hc]⟩
  · simp only [Builtin.firstCells, Sem.run_pure, List.length_map]
    congr 2
    apply Array.ext'
    simp
  · simp only [rowTys, List.length_map, hc]
    generalize d.toStr = l
    induction l with
    | nil => exact .nil
    | cons c l ih =>
      simp only [List.length_cons, List.replicate_succ, List.flatten_cons, List.map_cons, List.singleton_append]
      refine .cons (.int he ?_ ?_) ih
      · simp [IntKind.min, IntKind.signed]
      · have := c.toNat_lt
        simp [IntKind.max, IntKind.bits, IntKind.signed]
        omega

/-- 'append' in place, or into a new block. -/
theorem append_run {t u ty e : TypeId} (ht : P.underlying t = some (.slice e)) (hs : sizeOk P e = true) {by' : Nat} (hby : bytesOf' P e = some by') {z : List SV} (hz : zeroCells P e = some z) (hzl : z.length = (cellTys P e).length)
    {v : Value} {N : Nat} {xs : List Value} {x : Value} {es : List (List D)} {news : List Value} (ha : Adds P w av e u x es news)
    {base : Option Addr} {cap : Nat} (hv : v = .slice base N cap) (hxl : xs.length = N * (cellTys P e).length) (hold : ∀ w', w'.heap = w.heap → (Builtin.firstCells (cellTys P e).length N v).run P w' = .ok xs.toArray w')
    (hbytes : (N + es.length) * by' ≤ 140737488355328) (hb0 : by' ≠ 0) :
    (cap < N + es.length → ∃ cap' cur, (Builtin.append_ #[t, u] ty #[v, x]).run P w = .ok (.slice (some ⟨w.heap.size, 0, none⟩) (N + es.length) cap') (w.drew.alloc (.cells cur e)) ∧ N + es.length ≤ cap' ∧ cap' ≤ maxLen ∧ cur.size = cap' * (cellTys P e).length ∧
      cur.toList.take ((N + es.length) * (cellTys P e).length) = xs ++ news) ∧
    (N + es.length ≤ cap → (∀ ad, base = some ad → (storeCells (ad.add (N * (cellTys P e).length)) news).run P w = .ok () w') → (base = none → w' = w) → (Builtin.append_ #[t, u] ty #[v, x]).run P w = .ok (.slice base (N + es.length) cap) w') := by
  subst hv
  obtain ⟨i, zv, hi, hzv, hzr⟩ := zeroCells_info hz
  have hsz := (sizeOk_eq hs).1
  simp only [sizeOf', hi, Option.map_some, Option.some.injEq] at hsz
  simp only [bytesOf', hi, Option.map_some, Option.some.injEq] at hby
  have hnl : news.length = es.length * (cellTys P e).length := by rw [ha.rep.length_tys, rowTys_len]
  have hzs : zv.cells.size = (cellTys P e).length := by rw [← hzl, (hzr w av (fun _ => none) []).length]; simp
  have hN : N + es.length ≤ 140737488355328 := Nat.le_trans (Nat.le_mul_of_pos_right _ (by omega)) hbytes
  constructor
  · intro hc
    have hge := grownCap_ge w (N + es.length) cap e
    have hcm : grownCap w (N + es.length) cap e ≤ maxLen := grownCap_le_maxLen w (N + es.length) cap e (by simp only [maxLen]; omega)
    refine ⟨grownCap w (N + es.length) cap e, xs.toArray ++ news.toArray ++ Builtin.zeroCells zv.cells (grownCap w (N + es.length) cap e - (N + es.length)), ?_, hge, hcm, ?_, ?_⟩
    · have hn : ¬ (N + es.length ≤ cap) := by omega
      have h48 : ¬ (281474976710656 < Builtin.nextslicecap (N + es.length) cap * i.bytes) := by
        have := growslice_fits (need := N + es.length) (old := cap) (bytes := i.bytes) (by omega) (by rw [hby]; exact hbytes)
        omega
      have hf := ha.cells w.drew rfl
      have hfo := hold w.drew rfl
      have h63 : ¬ (9223372036854775807 < ((N : Int) + (es.length : Int))) := by omega
      rcases ha.kind with ⟨e', hd⟩ | hd
      · simp [Builtin.append_, run_underlying ht, run_underlying hd, sizeOf, typeInfo, zeroValue, hi, hzv, ha.len, hn, h48, h63, Question.forced, hsz, hf, hfo, newRow, grownCap]
        congr 2
        apply Array.ext'
        simp [List.append_assoc]
      · simp [Builtin.append_, run_underlying ht, run_underlying hd, sizeOf, typeInfo, zeroValue, hi, hzv, ha.len, hn, h48, h63, Question.forced, hsz, hf, hfo, newRow, grownCap]
        congr 2
        apply Array.ext'
        simp [List.append_assoc]
    · simp only [Array.size_append, List.size_toArray, size_zeroCells, hzs, hxl, hnl, ← Nat.add_mul]
      congr 1
      omega
    · simp only [Array.toList_append, List.append_assoc]
      rw [← List.append_assoc, Nat.add_mul, ← hxl, ← hnl, ← List.length_append]
      exact List.take_left
  · intro hc hst hno
    have hf := ha.cells w rfl
    rcases ha.kind with ⟨e', hd⟩ | hd
    · cases base with
      | none => simp [Builtin.append_, run_underlying ht, run_underlying hd, sizeOf, typeInfo, hi, ha.len, hc, hsz, hf, hno rfl]
      | some ad => simp [Builtin.append_, run_underlying ht, run_underlying hd, sizeOf, typeInfo, hi, ha.len, hc, hsz, hf, hst ad rfl]
    · cases base with
      | none => simp [Builtin.append_, run_underlying ht, run_underlying hd, sizeOf, typeInfo, hi, ha.len, hc, hsz, hf, hno rfl]
      | some ad => simp [Builtin.append_, run_underlying ht, run_underlying hd, sizeOf, typeInfo, hi, ha.len, hc, hsz, hf, hst ad rfl]
end
end Go.RX
namespace Go.RX

section
variable {P : Program} {B : Base} {ρ : List D} {S : SSt} {a : Act} {w w' : World} {m : Pl} {n : Nat} {o : Oper} {r : Out} {av av' : Av} {H H' : List SObj}

/-- from the values to the memory -/
theorem repM_of {b : Nat} : ∀ {ts : List TypeId} {ys : List Value} {ds : List D} {k : Nat}, RepL P w av ts ys ds → (∀ j y, ys[j]? = some y → w.cell? ⟨b, k + j, none⟩ = some y) → (∀ off, k ≤ off → off < k + ts.length → ¬ av b off) → RepM P w av ts b k ds
  | _, _, _, k, .nil, _, _ => .nil
  | _, _, _, k, .cons (ts := ts) r l, hc, ha => by
    refine .cons (by simpa using hc 0 _ rfl) (ha k (Nat.le_refl _) (by simp)) r (repM_of l (fun j y hj => ?_) (fun off h1 h2 => ha off (by omega) (by simp; omega)))
    have := hc (j + 1) y (by simpa using hj)
    rwa [show k + (j + 1) = k + 1 + j by omega] at this
theorem repE_of {e : TypeId} {b : Nat} : ∀ {es : List (List D)} {k : Nat} {xs : List Value}, (∀ x ∈ es, x.length = (cellTys P e).length) → (∀ j x, xs[j]? = some x → w.cell? ⟨b, k + j, none⟩ = some x) →
    (∀ off, k ≤ off → off < k + es.length * (cellTys P e).length → ¬ av b off) → RepL P w av (rowTys P e es.length) xs es.flatten → RepE P w av e b k es
  | [], k, xs, _, _, _, _ => .nil
  | x :: es, k, xs, hl, hc, ha, hr => by
    have hx := hl x (List.mem_cons_self ..)
    simp only [rowTys, List.length_cons, List.replicate_succ, List.flatten_cons] at hr
    have hd := hr.take (cellTys P e).length
    have he := hr.drop (cellTys P e).length
    rw [List.take_left' rfl, List.take_left' hx] at hd
    rw [List.drop_left' rfl, List.drop_left' hx] at he
    refine .cons (repM_of hd (fun j y hj => hc j y ?_) (fun off h1 h2 => ha off h1 ?_)) (repE_of (xs := xs.drop (cellTys P e).length) (fun y hy => hl y (List.mem_cons_of_mem _ hy)) (fun j y hj => ?_) (fun off h1 h2 => ha off (by omega) ?_) he)
    · rw [List.getElem?_take] at hj
      split at hj
      · exact hj
      · cases hj
    · simp only [List.length_cons, Nat.add_mul]; omega
    · rw [List.getElem?_drop] at hj
      have := hc _ y hj
      rwa [show k + ((cellTys P e).length + j) = k + x.length + j by omega] at this
    · simp only [List.length_cons, Nat.add_mul]; omega

theorem zeroOk_eq {e : TypeId} (h : zeroOk P e = true) : ∃ z, zeroCells P e = some z ∧ z.length = (cellTys P e).length := by
  unfold zeroOk at h
  split at h
  · rename_i z hz; exact ⟨z, hz, by simpa using h⟩
  · cases h

/-- An owned row that is appended to. -/
theorem append_own {t u ty e : TypeId} (ht : P.underlying t = some (.slice e)) (hs : sizeOk P e = true) {by' : Nat} (hby : bytesOf' P e = some by') (hz : zeroOk P e = true)
    {v : Value} {N : Nat} {xs : List Value} {x : Value} {es : List (List D)} {news : List Value} (ha : Adds P w av e u x es news) (how : w.ownsRow 0 e (cellTys P e).length v N xs)
    (hbytes : (N + es.length) * by' ≤ 140737488355328) (hb0 : by' ≠ 0) :
    ∃ v' w', (Builtin.append_ #[t, u] ty #[v, x]).run P w = .ok v' w' ∧ w'.ownsRow 0 e (cellTys P e).length v' (N + es.length) (xs ++ news) ∧ Ext (fun b => v.ownBlock = some b) w w' ∧
      (∀ b, v.ownBlock = some b → ∀ j, j < N * (cellTys P e).length → w'.cell? ⟨b, j, none⟩ = w.cell? ⟨b, j, none⟩) ∧ (∀ b, v'.ownBlock = some b → v.ownBlock = some b ∨ w.heap.size ≤ b) ∧ ∃ a n c, v' = .slice a n c := by
  obtain ⟨z, hz, hzl⟩ := zeroOk_eq hz
  have hnl : news.length = es.length * (cellTys P e).length := by rw [ha.rep.length_tys, rowTys_len]
  have hlen : (xs ++ news).length = (N + es.length) * (cellTys P e).length := by rw [List.length_append, how.1, hnl, Nat.add_mul]
  have grown : ∀ {base : Option Addr} {cap : Nat}, v = .slice base N cap → (∀ w', w'.heap = w.heap → (Builtin.firstCells (cellTys P e).length N v).run P w' = .ok xs.toArray w') → cap < N + es.length →
      ∃ v' w', (Builtin.append_ #[t, u] ty #[v, x]).run P w = .ok v' w' ∧ w'.ownsRow 0 e (cellTys P e).length v' (N + es.length) (xs ++ news) ∧ Ext (fun b => v.ownBlock = some b) w w' ∧
      (∀ b, v.ownBlock = some b → ∀ j, j < N * (cellTys P e).length → w'.cell? ⟨b, j, none⟩ = w.cell? ⟨b, j, none⟩) ∧ (∀ b, v'.ownBlock = some b → v.ownBlock = some b ∨ w.heap.size ≤ b) ∧ ∃ a n c, v' = .slice a n c := by
    intro base cap hv hold hc
    obtain ⟨cap', cur, hrun, h1, h2, h3, h4⟩ := (append_run (w' := w) (ty := ty) ht hs hby hz hzl ha hv how.1 hold hbytes hb0).1 hc
    have hx : Ext (fun _ => False) w (w.drew.alloc (.cells cur e)) := (Ext.drew w).trans (Ext.alloc w.drew _) (fun _ _ f => f)
    refine ⟨_, _, hrun, ⟨hlen, .inr ⟨w.heap.size, cap', cur, rfl, Nat.zero_le _, heap_alloc_new w.drew _, h1, h2, h3, h4⟩⟩, ⟨hx.os, hx.tape, hx.output, hx.size, fun b hb _ => hx.block b hb (fun f => f)⟩, ?_, ?_, _, _, _, rfl⟩
    · intro b hb j _
      have hlt := (how.lt b hb).2
      exact cell?_of_heap_eq (hx.block b hlt (fun f => f)) j
    · intro b hb
      cases hb
      exact .inr (Nat.le_refl _)
  rcases how.2 with ⟨hv, h0⟩ | ⟨g, cap, cur, hv, hg0, hg, hnc, hcm, hcz, htake⟩
  · subst h0
    have hxs : xs = [] := List.eq_nil_of_length_eq_zero (by simpa using how.1)
    subst hxs
    have hold : ∀ w' : World, w'.heap = w.heap → (Builtin.firstCells (cellTys P e).length 0 v).run P w' = .ok ([] : List Value).toArray w' := by
      intro w' _; rw [hv]; simp [Builtin.firstCells]
    by_cases hc : 0 < 0 + es.length
    · exact grown hv hold hc
    · have hes : es = [] := List.eq_nil_of_length_eq_zero (by omega)
      have hn : news = [] := List.eq_nil_of_length_eq_zero (by rw [hnl, hes]; simp)
      have hrun := (append_run (w' := w) (ty := ty) ht hs hby hz hzl ha hv how.1 hold hbytes hb0).2 (by omega) (fun _ h => by cases h) (fun _ => rfl)
      refine ⟨_, w, hrun, ⟨hlen, .inl ⟨by rw [hes]; rfl, by rw [hes]; rfl⟩⟩, Ext.refl _ w, fun _ _ _ _ => rfl, fun b hb => (by cases hb), _, _, _, rfl⟩
  · have hold : ∀ w' : World, w'.heap = w.heap → (Builtin.firstCells (cellTys P e).length N v).run P w' = .ok xs.toArray w' := by
      intro w' hw
      rw [hv]
      refine run_firstCells_some w' _ _ ⟨g, 0, none⟩ _ _ xs how.1 (fun j y hj => ?_)
      have := how.cells (g := g) (by rw [hv]; rfl) j y hj
      rw [← this]
      exact World.cell?_of_block (by rw [hw])
    by_cases hc : cap < N + es.length
    · exact grown hv hold hc
    · have hle : N + es.length ≤ cap := by omega
      have hmul : N * (cellTys P e).length + news.length ≤ cur.size := by rw [hnl, ← Nat.add_mul, hcz]; exact Nat.mul_le_mul_right _ hle
      have hst : (storeCells ((⟨g, 0, none⟩ : Addr).add (N * (cellTys P e).length)) news).run P w = .ok () (w.setCells g (N * (cellTys P e).length) news) := by
        rw [Addr.add_lit, Nat.zero_add]
        refine run_storeCells_cells g _ _ 0 w (fun j hj => ?_) (fun j hj => by simp [World.frozen?, hg]) (ha.rep.oneCells rowTys_flat)
        rw [cell_of_row w g _ cur e (0, 0) hg]
        simp; omega
      have hrun := (append_run (ty := ty) ht hs hby hz hzl ha hv how.1 hold hbytes hb0).2 hle (fun ad had => by cases had; exact hst) (fun h => by cases h)
      refine ⟨_, _, hrun, ⟨hlen, .inr ⟨g, cap, _, rfl, hg0, setCells_block _ g _ w hg, hle, hcm, ?_, ?_⟩⟩, ?_, ?_, ?_, _, _, _, rfl⟩
      · simp only [List.size_toArray, setAt_length, Array.length_toList]; exact hcz
      · show (setAt cur.toList _ _).take _ = _
        rw [setAt_take, ← htake]
        have hxl : (cur.toList.take (N * (cellTys P e).length)).length = N * (cellTys P e).length := by rw [htake]; exact how.1
        have e1 : cur.toList.take ((N + es.length) * (cellTys P e).length) = cur.toList.take (N * (cellTys P e).length) ++ (cur.toList.drop (N * (cellTys P e).length)).take news.length := by
          rw [Nat.add_mul, List.take_add, ← hnl]
        rw [e1]
        have := setAt_right news (cur.toList.take (N * (cellTys P e).length)) ((cur.toList.drop (N * (cellTys P e).length)).take news.length) 0
        rw [hxl, Nat.add_zero] at this
        rw [this]
        congr 1
        have key : ∀ (l d : List Value), l.length = d.length → setAt l 0 d = d := by
          intro l d h
          have gen : ∀ (d A l : List Value), l.length = d.length → setAt (A ++ l) A.length d = A ++ d := by
            intro d
            induction d with
            | nil => intro A l h; simp [setAt, List.eq_nil_of_length_eq_zero h]
            | cons x d ih =>
              intro A l h
              match l, h with
              | y :: l, h =>
                simp only [setAt]
                have e : (A ++ y :: l).set A.length x = (A ++ [x]) ++ l := by simp
                rw [e, show A.length + 1 = (A ++ [x]).length by simp, ih (A ++ [x]) l (by simpa using h)]
                simp
          simpa using gen d [] l h
        apply key
        have hcl : cur.toList.length = cur.size := by simp
        rw [List.length_take, List.length_drop]
        omega
      · rw [hv]
        have := setCells_ext news g (N * (cellTys P e).length) w
        exact ⟨this.os, this.tape, this.output, this.size, fun b hb hn => this.block b hb (fun e => hn (by rw [e]; rfl))⟩
      · intro b hb j hj
        rw [hv] at hb
        cases hb
        exact World.cell?_setCells_out g news _ w ⟨g, j, none⟩ (fun _ _ => .inl hj)
      · intro b hb
        left
        rw [hv]; exact hb

/-- A new row. -/
theorem Step.layRow (h : Sim P B ρ H m w) (hn : m n = none) (hx : Ext (fun _ => False) w w') {e : TypeId} {c : X} {wr : Bool} {v : Value} {es : List (List D)} {xs : List Value}
    (hb : ∀ b, v.ownBlock = some b → w.heap.size ≤ b) (hc : c.den ρ = .sl es) (hsl : SlOk P e es) (how : w'.ownsRow 0 e (cellTys P e).length v es.length xs) (hlen : ∀ x ∈ es, x.length = (cellTys P e).length)
    (hr : RepL P w (avOf P m ρ B.fr H) (rowTys P e es.length) xs es.flatten) (hv : ∃ a n c, v = .slice a n c) :
    Step P B ρ H m w [(n, .row e c wr)] (.own n) (upd m n ⟨v.ownBlock, v⟩) w' v := by
  refine Step.lay (ob := .row e c wr) h hn hx hb ⟨es, xs, v, rfl, hc, hsl, how, hlen, ?_⟩ ?_
  · exact hr.keeps (keepsAv_lay (B := B) (n := n) (ob := .row e c wr) (fun b hb => hx.block b hb (fun f => f)) hb)
  · simp only [RepS]
    exact ⟨_, upd_same .., rfl, hv⟩

/-- A row goes over into another one. -/
theorem Step.turnRow (h : Sim P B ρ H m w) (hn : m n = none) {rr : Nat} {e : TypeId} {c c' : X} {wr : Bool} (hr : hget H rr = .row e c wr) {v v' : Value} (hp : m rr = some ⟨v.ownBlock, v⟩)
    (hx : Ext (fun b => v.ownBlock = some b) w w') {es es' : List (List D)} {xs : List Value} (hc0 : c.den ρ = .sl es) (hpre : ∀ b, v.ownBlock = some b → ∀ j, j < es.length * (cellTys P e).length → w'.cell? ⟨b, j, none⟩ = w.cell? ⟨b, j, none⟩)
    (hb : ∀ b, v'.ownBlock = some b → v.ownBlock = some b ∨ w.heap.size ≤ b) (hc : c'.den ρ = .sl es') (hle : es.length ≤ es'.length) (hsl : SlOk P e es') (how : w'.ownsRow 0 e (cellTys P e).length v' es'.length xs)
    (hlen : ∀ x ∈ es', x.length = (cellTys P e).length) (hrep : RepL P w (avOf P m ρ B.fr H) (rowTys P e es'.length) xs es'.flatten) (hv : ∃ a n c, v' = .slice a n c) :
    Step P B ρ H m w [(rr, .dead), (n, .row e c' wr)] (.own n) (upd m n ⟨v'.ownBlock, v'⟩) w' v' := by
  have hne : rr ≠ n := fun e => by rw [e, hn] at hp; cases hp
  have hg : ∀ q, hget (hset (hset H rr .dead) n (.row e c' wr)) q = if q = n then .row e c' wr else if q = rr then .dead else hget H q := by
    intro q; rw [hget_hset]; split
    · rfl
    · rw [hget_hset]
  have hk : KeepsAv (avOf P m ρ B.fr H) w w' (avOf P (upd m n ⟨v'.ownBlock, v'⟩) ρ B.fr (hset (hset H rr .dead) n (.row e c' wr))) := by
    intro b off u hu ha
    have hlt : b < w.heap.size := World.block_lt_of_cell? w ⟨b, off, none⟩ hu
    have hreg : v.ownBlock = some b → wr = false ∧ off < es.length * (cellTys P e).length := by
      intro hbv
      have : ¬ region P ρ (hget H rr) off := fun hreg => ha (.inr ⟨rr, _, hp, hbv, hreg⟩)
      rw [hr] at this
      cases wr
      · simp only [region, hc0, D.toSl, Nat.not_le] at this
        exact ⟨rfl, this⟩
      · simp [region] at this
    constructor
    · by_cases hbv : v.ownBlock = some b
      · rw [hpre b hbv off (hreg hbv).2]; exact hu
      · rw [cell?_of_heap_eq (hx.block b hlt hbv)]; exact hu
    · rintro (hF | ⟨q, p, hq, hqb, hreg'⟩)
      · exact ha (.inl hF)
      rw [hg] at hreg'
      by_cases e1 : q = n
      · subst e1
        rw [if_pos rfl] at hreg'
        rw [upd_same] at hq; cases hq
        rcases hb b hqb with hbv | hbv
        · obtain ⟨rfl, hlt'⟩ := hreg hbv
          simp only [region, hc, D.toSl] at hreg'
          have := Nat.mul_le_mul_right (cellTys P e).length hle
          omega
        · omega
      · rw [if_neg e1] at hreg'
        rw [upd_other _ e1] at hq
        by_cases e2 : q = rr
        · rw [if_pos e2] at hreg'; exact hreg'
        · rw [if_neg e2] at hreg'
          exact ha (.inr ⟨q, p, hq, hqb, hreg'⟩)
  refine ⟨?_, upd_le hn _, hk, ?_, ?_⟩
  · refine h.update (fun q => q = rr ∨ q = n) (fun q hq => ?_) (upd_le hn _) (fun q hq => upd_other _ (fun e => hq (.inr e))) hk ?_ ?_ ?_ ?_
    · simp only [hsets]
      rw [hg, if_neg (fun e => hq (.inr e)), if_neg (fun e => hq (.inl e))]
    · exact ⟨hx.os, hx.tape, hx.output, hx.size, fun b hbl hnb => hx.block b hbl (fun hbv => hnb ⟨rr, _, .inl rfl, by rw [hr]; trivial, hp, hbv⟩)⟩
    · intro q hq
      simp only [hsets]
      rw [hg]
      by_cases e1 : q = n
      · subst e1
        rw [if_pos rfl, upd_same]
        exact ⟨es', xs, v', rfl, hc, hsl, how, hlen, hrep.keeps hk⟩
      · rw [if_neg e1, if_pos (hq.resolve_right e1)]; trivial
    · intro q p b hq hl hpq hpb
      simp only [hsets] at hl
      rw [hg] at hl
      by_cases e1 : q = n
      · subst e1
        rw [upd_same] at hpq; cases hpq
        rcases hb b hpb with hbv | hbv
        · exact .inr ⟨rr, _, .inl rfl, by rw [hr]; trivial, hp, hbv⟩
        · exact .inl hbv
      · rw [if_neg e1, if_pos (hq.resolve_right e1)] at hl; exact (hl rfl).elim
    · intro q q' p p' b hq hq' hl hl' _ _ _ _
      simp only [hsets] at hl hl'
      rw [hg] at hl hl'
      have f : ∀ {q}, (q = rr ∨ q = n) → (if q = n then SObj.row e c' wr else if q = rr then .dead else hget H q) ≠ .dead → q = n := by
        intro q hq hl
        by_cases e1 : q = n
        · exact e1
        · rw [if_neg e1, if_pos (hq.resolve_right e1)] at hl; exact (hl rfl).elim
      rw [f hq hl, f hq' hl']
  · simp only [RepS]
    exact ⟨_, upd_same .., rfl, hv⟩
  · intro q hq hqs
    rw [upd_other _ (fun e0 => hqs (n, .row e c' wr) (by simp) e0.symm)]; exact hq
end
end Go.RX
namespace Go.RX

section
variable {P : Program} {B : Base} {ρ : List D} {S : SSt} {a : Act} {w w' : World} {m : Pl} {n : Nat} {o : Oper} {r : Out} {av av' : Av} {H H' : List SObj}

theorem op_moved (hM : Mod P B ρ S a w m) (hn : (∃ q ∈ r.sets, q.1 = n) → m n = none) {x : Operand} (hx : (execOp a.eval o) = pure (.value (a.eval x)))
    (h : (match opv P S x o.type with
      | .nils => match elemTy P o.type with
        | some e => some { val := SV.own n, sets := [(n, .row e (.lit .nil) true)] }
        | none => some { val := .nils }
      | v => some ({ val := v } : Out)) = some r) : OpOk P B ρ S a m w o r := by
  have hr := opv_rep hM x o.type
  have hrun : (execOp a.eval o).run P w = .ok (.value (a.eval x)) w := by rw [hx]; rfl
  split at h
  · rename_i hv
    rw [hv] at hr
    split at h
    · rename_i e he
      cases h
      have hv' : a.eval x = .slice none 0 0 := by simpa [RepS] using hr
      have hs := Step.layRow (w' := w) (e := e) (c := .lit .nil) (wr := true) (v := .slice none 0 0) (es := []) (xs := []) hM.sim (hn ⟨_, List.mem_cons_self .., rfl⟩) (Ext.refl _ w) (fun b hb => by cases hb) (by simp [X.den, D.aggL])
        ⟨by simp, by simp⟩ (World.ownsRow_nil w 0 e _) (by simp) (by simp only [rowTys, List.length_nil, List.replicate_zero, List.flatten_nil]; exact .nil) ⟨_, _, _, rfl⟩
      exact ⟨_, w, _, .inl hrun, hv' ▸ hs⟩
    · cases h
      exact OpOk.pure hM hrun rfl (by simpa using hr)
  · cases h
    exact OpOk.pure hM hrun rfl hr
theorem op_move (hM : Mod P B ρ S a w m) (hn : (∃ q ∈ r.sets, q.1 = n) → m n = none) {x : Operand} (hop : o.op = .move x) (h : symOp P S n o = some r) : OpOk P B ρ S a m w o r := by
  unfold symOp at h
  rw [hop] at h
  exact op_moved hM hn (by unfold execOp; rw [hop]) h
theorem op_assign (hM : Mod P B ρ S a w m) (hn : (∃ q ∈ r.sets, q.1 = n) → m n = none) {x : Operand} (hop : o.op = .assign x) (h : symOp P S n o = some r) : OpOk P B ρ S a m w o r := by
  unfold symOp at h
  rw [hop] at h
  exact op_moved hM hn (by unfold execOp; rw [hop]) h

theorem op_pick (hM : Mod P B ρ S a w m) {c x y : Operand} (hop : o.op = .pick c x y) (h : symOp P S n o = some r) : OpOk P B ρ S a m w o r := by
  unfold symOp at h
  rw [hop] at h
  dsimp only at h
  have hc := opv_rep hM c P.rt.bool
  have hx := opv_rep hM x o.type
  have hy := opv_rep hM y o.type
  split at h
  · rename_i cx t hcx
    rw [hcx] at hc
    split at h
    · cases h
    rename_i hb
    simp only [Bool.not_eq_true, Bool.not_eq_false'] at hb
    simp only [RepS] at hc
    obtain ⟨e1, d1⟩ := hc.ofBool (isBool_eq.1 hb)
    have hrun : (execOp a.eval o).run P w = .ok (.value (if (cx.den ρ).toBool then a.eval x else a.eval y)) w := by
      unfold execOp; rw [hop]; simp only [Sem.run_bind, e1, asBool, Sem.run_pure, Result.andThen_ok]
    split at h
    · cases h
      refine OpOk.pure hM hrun rfl ?_
      simpa [X.den, D.toBool] using hx
    · cases h
      refine OpOk.pure hM hrun rfl ?_
      simpa [X.den, D.toBool] using hy
    · split at h
      · rename_i av t1 bv t2 hav hbv
        split at h
        · rename_i ht
          simp only [beq_iff_eq] at ht
          subst ht
          cases h
          rw [hav] at hx; rw [hbv] at hy
          refine OpOk.pure hM hrun rfl ?_
          simp only [RepS, X.den] at hx hy ⊢
          cases (cx.den ρ).toBool
          · exact hy
          · exact hx
        · cases h
      · cases h
  · cases h

theorem op_alloc (hM : Mod P B ρ S a w m) (hn : (∃ q ∈ r.sets, q.1 = n) → m n = none) {t : TypeId} (hop : o.op = .alloc t) (h : symOp P S n o = some r) : OpOk P B ρ S a m w o r := by
  unfold symOp at h
  rw [hop] at h
  dsimp only at h
  split at h
  · rename_i cs hz
    cases h
    obtain ⟨v, hv, hr⟩ := zeroCells_rep (P := P) (w := w) (m := m) (ρ := ρ) (av := avOf P m ρ B.fr S.heap) hz
    refine ⟨_, _, _, .inl ?_, Step.layBox (T := t) hM.sim (hn ⟨_, List.mem_cons_self .., rfl⟩) hr⟩
    unfold execOp; rw [hop]
    simp [Instr.alloc, hv, newVar, newRow]
  · cases h
theorem op_box (hM : Mod P B ρ S a w m) (hn : (∃ q ∈ r.sets, q.1 = n) → m n = none) {t : TypeId} {x : Operand} (hop : o.op = .box t x) (h : symOp P S n o = some r) : OpOk P B ρ S a m w o r := by
  unfold symOp at h
  rw [hop] at h
  dsimp only at h
  split at h
  · rename_i cs hz
    cases h
    refine ⟨_, _, _, .inl ?_, Step.layBox (T := t) hM.sim (hn ⟨_, List.mem_cons_self .., rfl⟩) (cellsOf_rep hz (opv_rep hM x t))⟩
    unfold execOp; rw [hop]
    simp [Instr.box, newVar, newRow]
  · cases h
theorem op_build (hM : Mod P B ρ S a w m) {t : TypeId} {parts : Array (Nat × Operand)} (hop : o.op = .build t parts) (h : symOp P S n o = some r) : OpOk P B ρ S a m w o r := by
  unfold symOp at h
  rw [hop] at h
  dsimp only at h
  split at h
  · rename_i z hz
    split at h
    · rename_i cs hcs
      split at h
      · rename_i hp
        cases h
        obtain ⟨cells, hrun, hr⟩ := build_run hM hz hcs hp
        refine OpOk.pure hM ?_ rfl ?_ (v := .agg cells)
        · unfold execOp; rw [hop]
          simp only [Sem.run_bind, hrun, Result.andThen_ok, Sem.run_pure]
        · simp only [RepS]
          exact ⟨_, rfl, repSL_ofL.2 hr⟩
      · cases h
    · cases h
  · cases h
theorem op_load (hM : Mod P B ρ S a w m) {t : TypeId} {x : Operand} (hop : o.op = .load t x) (h : symOp P S n o = some r) : OpOk P B ρ S a m w o r := by
  unfold symOp at h
  rw [hop] at h
  dsimp only at h
  obtain ⟨u, hrun, hr, hs, _⟩ := symLoad_ok hM (opv_rep hM x t) h
  refine OpOk.pure hM ?_ hs hr
  unfold execOp; rw [hop]
  simp only [Sem.run_bind, hrun, Result.andThen_ok, Sem.run_pure]
theorem op_store (hM : Mod P B ρ S a w m) {t : TypeId} {x y : Operand} (hop : o.op = .store t x y) (h : symOp P S n o = some r) : OpOk P B ρ S a m w o r := by
  unfold symOp at h
  rw [hop] at h
  dsimp only at h
  obtain ⟨w', hrun, hs, _⟩ := symStore_ok hM (opv_rep hM x t) (opv_rep hM y t) h
  refine ⟨_, _, _, .inr ⟨?_, rfl⟩, hs⟩
  unfold execOp; rw [hop]
  simp only [Sem.run_bind, hrun, Result.andThen_ok, Sem.run_pure]
theorem op_nilCheck (hM : Mod P B ρ S a w m) {x : Operand} (hop : o.op = .nilCheck x) (h : symOp P S n o = some r) : OpOk P B ρ S a m w o r := by
  unfold symOp at h
  rw [hop] at h
  dsimp only at h
  have hr := opv_rep hM x o.type
  split at h
  · rename_i p off hx
    cases h
    rw [hx] at hr
    refine OpOk.pure hM ?_ rfl hr
    simp only [RepS] at hr
    obtain ⟨_, b, _, _, e⟩ := hr
    unfold execOp; rw [hop]
    simp [e]
  · cases h
theorem op_binOp (hM : Mod P B ρ S a w m) {op : BinOp} {xt yt : TypeId} {x y : Operand} (hop : o.op = .binOp op xt x y yt) (h : symOp P S n o = some r) (hc : ∀ c ∈ r.chks, c.den ρ = .bool true) : OpOk P B ρ S a m w o r := by
  unfold symOp at h
  rw [hop] at h
  dsimp only at h
  obtain ⟨v, hrun, hr, hs⟩ := symBin_ok hM h hc
  refine OpOk.pure hM ?_ hs hr
  unfold execOp; rw [hop]
  simp only [Sem.run_bind] at hrun
  simp only [Sem.run_bind, hrun, Result.andThen_ok, Sem.run_pure]

theorem op_unOp (hM : Mod P B ρ S a w m) {op : UnOp} {xt : TypeId} {x : Operand} (hop : o.op = .unOp op xt x) (h : symOp P S n o = some r) : OpOk P B ρ S a m w o r := by
  unfold symOp at h
  rw [hop] at h
  dsimp only at h
  have hr := opv_rep hM x xt
  split at h
  · rename_i ax t hx
    rw [hx] at hr
    simp only [RepS] at hr
    split at h
    · split at h
      · rename_i hb
        simp only [Bool.and_eq_true] at hb
        cases h
        obtain ⟨e, d⟩ := hr.ofBool (isBool_eq.1 hb.1)
        refine OpOk.pure hM (v := .bool (!(ax.den ρ).toBool)) ?_ rfl ?_
        · unfold execOp; rw [hop]; simp [e, Op.unary]
        · simp only [RepS, mkNot_den, X.den]
          exact .bool (isBool_eq.1 hb.2)
      · cases h
    · split at h
      · rename_i k hk
        split at h
        · rename_i hk'
          simp only [beq_iff_eq] at hk'
          cases h
          obtain ⟨e, d, _⟩ := hr.ofInt (intKind_eq.1 hk)
          refine OpOk.pure hM (v := .int k (k.wrap (0 - (ax.den ρ).toInt))) ?_ rfl ?_
          · unfold execOp; rw [hop]; simp [e, Op.unary, Op.intArith]
          · simp only [RepS, mkBin_den, X.den, binI, D.toInt]
            exact .int (intKind_eq.1 hk') (wrap_within _ _).1 (wrap_within _ _).2
        · cases h
      · cases h
    · split at h
      · rename_i k hk
        split at h
        · rename_i hk'
          simp only [beq_iff_eq] at hk'
          cases h
          obtain ⟨e, d, _⟩ := hr.ofInt (intKind_eq.1 hk)
          refine OpOk.pure hM (v := .int k (binI .xor k (if k.signed then -1 else k.max) (ax.den ρ).toInt)) ?_ rfl ?_
          · unfold execOp; rw [hop]; simp [e, Op.unary, Op.intBits, binI]
          · simp only [RepS, mkBin_den, X.den, D.toInt]
            exact .int (intKind_eq.1 hk') (wrap_within _ _).1 (wrap_within _ _).2
        · cases h
      · cases h
    · cases h
  · cases h

theorem RepE.bytes {av : Av} {e : TypeId} (he : P.underlying e = some (.int .u8)) : ∀ {b off : Nat} {es : List (List D)}, RepE P w av e b off es → ∀ i, i < es.length → w.cell? ⟨b, off + i, none⟩ = some (.int .u8 ((es.map fun x => (x.headD default).toInt).getD i 0))
  | b, off, [], .nil, i, h => by simp at h
  | b, off, cs :: es, .cons m l, i, h => by
    have hc : cellTys P e = [e] := cellTys_one (by simp [isAg, he])
    have hl := m.length_ds
    rw [hc] at hl m
    cases i with
    | zero =>
      obtain ⟨v, d, h1, _, h3, h4⟩ := m.get (j := 0) rfl
      obtain ⟨e1, e2, _⟩ := h4.ofInt he
      cases cs with
      | nil => simp at hl
      | cons c cs => simp at h3; subst h3; rw [h1, e1]; simp
    | succ i =>
      have := RepE.bytes he l i (by simpa using h)
      rw [hl] at this
      simp only [List.length_cons, List.length_nil, Nat.zero_add] at this
      rw [show off + (i + 1) = off + 1 + i by omega, this]
      simp
theorem bytes_conv {av : Av} {src dst e : TypeId} (hs : P.underlying src = some (.slice e)) (he : P.underlying e = some (.int .u8)) (hd : P.underlying dst = some .string) {v : Value} {d : D} (h : Rep P w av src v d) :
    (convert src dst v).run P w = .ok (.string ⟨(d.toSl.map fun x => UInt8.ofNat (x.headD default).toInt.toNat).toArray⟩) w ∧ (d.toSl.length : Int) ≤ 9223372036854775807 := by
  cases h with
  | bool h => simp [hs] at h
  | int h => simp [hs] at h
  | str h => simp [hs] at h
  | agg h => simp [isAg, hs] at h
  | nil h =>
    rename_i ad cap
    refine ⟨?_, by simp [D.toSl]⟩
    rw [run_convert_bytes_string w src dst e ad 0 cap hs he hd]
    cases ad <;> simp [Conv.bytesToString, loadCells, loadCellsFrom, D.toSl] <;> rfl
  | sl h o c l =>
    rw [hs] at h; cases h
    rename_i es
    refine ⟨?_, o.1⟩
    rw [run_convert_bytes_arg (P := P) w src e hs he _ _ es.length _ (es.map fun x => (x.headD default).toInt) (by simp) (l.bytes he) dst hd]
    simp [strOfNums, D.toSl]
theorem symB2s_ok (hM : Mod P B ρ S a w m) {src dst : TypeId} {x : Operand} (hop : o.op = .convert src dst x) {v : SV} (hv : RepS P w (avOf P m ρ B.fr S.heap) m ρ v (a.eval x)) (h : symB2s P S src dst v = some r) : OpOk P B ρ S a m w o r := by
  unfold symB2s at h
  split at h
  · rename_i e he
    split at h
    · rename_i hc
      simp only [Bool.and_eq_true, beq_iff_eq] at hc
      split at h
      · rename_i d f hd
        cases h
        have hrep := dataOf_rep (H' := hsets S.heap (frost S.heap f)) hM.sim hd hv (FrozIn.frost _ _)
        obtain ⟨h1, h2⟩ := bytes_conv (elemTy_eq.1 he) (intKind_eq.1 hc.2) (isStr_eq.1 hc.1) hrep
        refine OpOk.pure hM (v := .string ⟨((d.den ρ).toSl.map fun x => UInt8.ofNat (x.headD default).toInt.toNat).toArray⟩) ?_ rfl ?_
        · unfold execOp; rw [hop]; simp [h1]
        · simp only [RepS, X.den]
          exact .str (isStr_eq.1 hc.1) (by simpa using h2)
      · cases h
    · cases h
  · cases h
theorem op_convert (hM : Mod P B ρ S a w m) {src dst : TypeId} {x : Operand} (hop : o.op = .convert src dst x) (h : symOp P S n o = some r) : OpOk P B ρ S a m w o r := by
  unfold symOp at h
  rw [hop] at h
  dsimp only at h
  have hr := opv_rep hM x src
  split at h
  · rename_i ax t hx
    have hr0 := hr
    rw [hx] at hr0
    rw [hx] at hr
    simp only [RepS] at hr
    split at h
    · rename_i k k' hk hk'
      split at h
      · rename_i hsrc
        cases h
        obtain ⟨e, d, _⟩ := hr.ofInt (intKind_eq.1 hk)
        refine OpOk.pure hM (v := .int k' (k'.wrap (ax.den ρ).toInt)) ?_ rfl ?_
        · unfold execOp; rw [hop]; dsimp only; rw [e]
          obtain ⟨d', hd'⟩ := Option.isSome_iff_exists.1 hsrc
          simp [convert, run_underlying (intKind_eq.1 hk'), run_underlying hd', Conv.intToInt]
        · simp only [RepS, X.den]
          exact .int (intKind_eq.1 hk') (wrap_within _ _).1 (wrap_within _ _).2
      · cases h
    · split at h
      · rename_i hs
        simp only [Bool.and_eq_true] at hs
        cases h
        obtain ⟨e, d, hl⟩ := hr.ofStr (isStr_eq.1 hs.1.1)
        refine OpOk.pure hM (v := a.eval x) ?_ rfl ?_
        · obtain ⟨d', hd'⟩ := Option.isSome_iff_exists.1 hs.2
          unfold execOp; rw [hop]; dsimp only; rw [e]
          simp [convert, run_underlying (isStr_eq.1 hs.1.2), run_underlying hd']
        · simp only [RepS]
          rw [e]
          have := Rep.str (P := P) (w := w) (av := avOf P m ρ B.fr S.heap) (isStr_eq.1 hs.1.2) hl
          rw [← d] at this
          exact this
      · exact symB2s_ok hM hop hr0 h
  · exact symB2s_ok hM hop hr h

theorem opv_reps (hM : Mod P B ρ S a w m) : ∀ (l : List Operand), RepSs P w (avOf P m ρ B.fr S.heap) m ρ (l.map fun c => opv P S c 0) (l.map a.eval)
  | [] => trivial
  | c :: l => ⟨opv_rep hM c 0, opv_reps hM l⟩
theorem op_makeFunc (hM : Mod P B ρ S a w m) {f : FuncId} {first caps : Array Operand} (hop : o.op = .makeFunc (.func f) first caps) (h : symOp P S n o = some r) : OpOk P B ρ S a m w o r := by
  unfold symOp at h
  rw [hop] at h
  dsimp only at h
  cases h
  refine OpOk.pure hM (v := .func (.func f) (first.map a.eval) (caps.map a.eval)) ?_ rfl ?_
  · unfold execOp; rw [hop]; simp [Instr.makeFunc]
  · simp only [RepS]
    exact ⟨_, _, rfl, repSL_ofL.2 (by simpa using opv_reps hM first.toList), repSL_ofL.2 (by simpa using opv_reps hM caps.toList)⟩

theorem op_range (hM : Mod P B ρ S a w m) (hn : (∃ q ∈ r.sets, q.1 = n) → m n = none) {t : TypeId} {x : Operand} (hop : o.op = .range t x) (h : symOp P S n o = some r) : OpOk P B ρ S a m w o r := by
  unfold symOp at h
  rw [hop] at h
  dsimp only at h
  have hr := opv_rep hM x t
  split at h
  · rename_i ax u hx
    split at h
    · rename_i hs
      simp only [Bool.and_eq_true] at hs
      cases h
      rw [hx] at hr
      simp only [RepS] at hr
      obtain ⟨e, d, hl⟩ := hr.ofStr (isStr_eq.1 hs.1)
      have hp : ∀ b, (⟨some w.heap.size, .pointer (some ⟨w.heap.size, 0, none⟩)⟩ : Place).block = some b → w.heap.size ≤ b := fun b hb => by cases hb; exact Nat.le_refl _
      refine ⟨.pointer (some ⟨w.heap.size, 0, none⟩), w.alloc (.stringIter ⟨(ax.den ρ).toStr.toArray⟩ 0), _, .inl ?_, Step.lay (p := ⟨some w.heap.size, .pointer (some ⟨w.heap.size, 0, none⟩)⟩) hM.sim (hn ⟨_, List.mem_cons_self .., rfl⟩) (Ext.alloc w _) hp ?_ ?_⟩
      · unfold execOp; rw [hop]; dsimp only; rw [e]
        simp [Instr.range, run_underlying (isStr_eq.1 hs.2)]
      · exact ⟨w.heap.size, (ax.den ρ).toStr, 0, rfl, d, rfl, by simp, hl, heap_alloc_new w _⟩
      · simp only [RepS]
        exact ⟨_, _, upd_same .., rfl, rfl⟩
    · cases h
  · cases h
theorem op_makeMap (hM : Mod P B ρ S a w m) (hn : (∃ q ∈ r.sets, q.1 = n) → m n = none) {t : TypeId} (hop : o.op = .makeMap t none) (h : symOp P S n o = some r) : OpOk P B ρ S a m w o r := by
  unfold symOp at h
  rw [hop] at h
  dsimp only at h
  split at h
  · rename_i k v hu
    cases h
    have hp : ∀ b, (⟨some w.heap.size, .map (some w.heap.size)⟩ : Place).block = some b → w.heap.size ≤ b := fun b hb => by cases hb; exact Nat.le_refl _
    refine ⟨.map (some w.heap.size), w.alloc (.map #[] 0), _, .inl ?_, Step.lay (p := ⟨some w.heap.size, .map (some w.heap.size)⟩) hM.sim (hn ⟨_, List.mem_cons_self .., rfl⟩) (Ext.alloc w _) hp ?_ ?_⟩
    · unfold execOp; rw [hop]
      simp [Instr.makeMap]
    · exact ⟨w.heap.size, #[], 0, [], rfl, heap_alloc_new w _, by simp [X.den, D.aggL], trivial⟩
    · simp only [RepS]
      exact ⟨_, upd_same .., rfl, _, rfl⟩
  · cases h
theorem op_extract (hM : Mod P B ρ S a w m) {x : Operand} {i : Nat} (hop : o.op = .extract x i) (h : symOp P S n o = some r) : OpOk P B ρ S a m w o r := by
  unfold symOp at h
  rw [hop] at h
  dsimp only at h
  have hr := opv_rep hM x o.type
  split at h
  · rename_i vs hx
    rw [hx] at hr
    simp only [RepS] at hr
    obtain ⟨us, e, hl⟩ := hr
    rw [Option.map_eq_some_iff] at h
    obtain ⟨s, hs, rfl⟩ := h
    obtain ⟨v, hv, hr⟩ := (repSL_toL _ hl).get hs
    have hv' : us[i]? = some v := by simpa using hv
    refine OpOk.pure hM ?_ rfl hr
    unfold execOp; rw [hop]; dsimp only; rw [e]
    simp [Instr.extract, hv']
  · cases h
end
end Go.RX
namespace Go.RX

section
variable {P : Program} {B : Base} {ρ : List D} {S : SSt} {a : Act} {w w' : World} {m : Pl} {n : Nat} {o : Oper} {r : Out} {av av' : Av} {H H' : List SObj}

theorem fieldAt'_eq {s : TypeId} {f off : Nat} {t : TypeId} (h : fieldAt' P s f = some (off, t)) : ∃ fs fd, P.underlying s = some (.struct fs) ∧ fs[f]? = some fd ∧ fd.offset = off ∧ fd.type = t := by
  unfold fieldAt' at h
  split at h
  · rename_i fs hfs
    split at h
    · rename_i fd hfd
      split at h
      · cases h; exact ⟨fs, fd, hfs, hfd, rfl, rfl⟩
      · cases h
    · cases h
  · cases h
theorem fieldAt_run {s : TypeId} {f off : Nat} {t : TypeId} (h : fieldAt' P s f = some (off, t)) (hs : (sizeOf' P t == some 0 || (sizeOf' P t).isNone) = false) (b o : Nat) :
    (Instr.fieldAt s (.pointer (some ⟨b, o, none⟩)) f).run P w = .ok (.pointer (some ⟨b, o + off, none⟩)) w := by
  obtain ⟨fs, fd, h1, h2, h3, h4⟩ := fieldAt'_eq h
  subst h3; subst h4
  simp only [Bool.or_eq_false_iff, beq_eq_false_iff_ne, ne_eq] at hs
  cases hi : P.info? fd.type with
  | none => simp [sizeOf', hi] at hs
  | some i =>
    have h0 : i.size ≠ 0 := by simpa [sizeOf', hi] using hs.1
    simp [Instr.fieldAt, run_underlying h1, h2, Instr.sureAddr, fieldPlace, sizeOf, typeInfo, hi, h0, Addr.add_lit]
theorem op_fieldAddr (hM : Mod P B ρ S a w m) {s : TypeId} {x : Operand} {f : Nat} (hop : o.op = .fieldAddr s x f) (h : symOp P S n o = some r) : OpOk P B ρ S a m w o r := by
  unfold symOp at h
  rw [hop] at h
  dsimp only at h
  have hr := opv_rep hM x s
  split at h
  · rename_i off t hf
    split at h
    · cases h
    rename_i hs
    simp only [Bool.not_eq_true] at hs
    have run : ∀ {b o'}, a.eval x = .pointer (some ⟨b, o', none⟩) → (execOp a.eval o).run P w = .ok (.value (.pointer (some ⟨b, o' + off, none⟩))) w := by
      intro b o' e
      unfold execOp; rw [hop]; simp only [Sem.run_bind, e, fieldAt_run hf hs, Result.andThen_ok, Sem.run_pure]
    split at h
    · rename_i p off' hx
      cases h
      rw [hx] at hr
      simp only [RepS] at hr
      obtain ⟨q, b, h1, h2, e⟩ := hr
      exact OpOk.pure hM (run e) rfl (by simp only [RepS]; exact ⟨q, b, h1, h2, rfl⟩)
    · rename_i e' y off' hx
      cases h
      rw [hx] at hr
      simp only [RepS] at hr
      obtain ⟨b, q, e, h2⟩ := hr
      exact OpOk.pure hM (run e) rfl (by simp only [RepS]; exact ⟨b, q, by rw [Nat.add_assoc], h2⟩)
    · rename_i e' rr i off' hx
      cases h
      rw [hx] at hr
      simp only [RepS] at hr
      obtain ⟨q, b, n', c, h1, h2, h3, h4, e⟩ := hr
      exact OpOk.pure hM (run e) rfl (by simp only [RepS]; exact ⟨q, b, n', c, h1, h2, h3, h4, by rw [Nat.add_assoc]⟩)
    · cases h
  · cases h

theorem part_run' {t : TypeId} {vs : Array Value} {off : Nat} (h : sizeOk P t = true) (hl : ((vs.toList.drop off).take (cellTys P t).length).length = (cellTys P t).length) :
    (part t vs off).run P w = .ok (valOf P t ((vs.toList.drop off).take (cellTys P t).length)) w := by
  have := part_run (P := P) (w := w) (t := t) (vs := vs.toList) (off := off) (us := (vs.toList.drop off).take (cellTys P t).length) (sizeOk_eq h).2 (fun _ => by rw [hl]; exact (sizeOk_eq h).1) (fun hg => by rw [hl, cellTys_one hg]; rfl) (by rw [hl])
  simpa using this
theorem op_field (hM : Mod P B ρ S a w m) {s : TypeId} {x : Operand} {f : Nat} (hop : o.op = .field s x f) (h : symOp P S n o = some r) : OpOk P B ρ S a m w o r := by
  unfold symOp at h
  rw [hop] at h
  dsimp only at h
  have hr := opv_rep hM x s
  split at h
  · rename_i off t hf
    split at h
    · cases h
    rename_i hs
    simp only [Bool.not_eq_true, Bool.not_eq_false', Bool.or_eq_true, not_or] at hs
    split at h
    · rename_i cs hcs
      rw [Option.map_eq_some_iff] at h
      obtain ⟨s', hs', rfl⟩ := h
      obtain ⟨vs, ev⟩ := isAgSV_rep hs.2 hr
      have hc := cellsOf_rep hcs hr
      rw [ev] at hc
      obtain ⟨hl, hv⟩ := partSV_rep hs' hc
      obtain ⟨fs, fd, h1, h2, h3, h4⟩ := fieldAt'_eq hf
      refine OpOk.pure hM ?_ rfl hv
      unfold execOp; rw [hop]
      simp only [Value.cells] at hl
      have := part_run' (P := P) (w := w) hs.1 hl
      simp only [Sem.run_bind, ev, Instr.field, run_underlying h1, Result.andThen_ok, h2, asAgg, Sem.run_pure, h3, h4, this, Value.cells]
    · cases h
  · cases h
end
end Go.RX
namespace Go.RX

section
variable {P : Program} {B : Base} {ρ : List D} {S : SSt} {a : Act} {w w' : World} {m : Pl} {n : Nat} {o : Oper} {r : Out} {av av' : Av} {H H' : List SObj}

theorem chk_cmp {op : BinOp} {x y : X} (h : (xCmp op x y).den ρ = .bool true) : cmpI op (x.den ρ).toInt (y.den ρ).toInt = true := by
  unfold xCmp at h
  rw [mkCmp_den] at h
  simpa [X.den] using h

theorem indexAt_run {t e : TypeId} (ht : P.underlying t = some (.slice e)) (hs : sizeOk P e = true) {b off len cap : Nat} {k : IntKind} {i : Int} (h0 : 0 ≤ i) (h1 : i < len) :
    (Instr.indexAt t (.slice (some ⟨b, off, none⟩) len cap) (.int k i)).run P w = .ok (.pointer (some ⟨b, off + i.toNat * (cellTys P e).length, none⟩)) w := by
  have e1 : P.underlying t = some (.slice (P.elem t)) := by rw [ht]; simp [Program.elem, ht]
  have e2 : P.elem t = e := by simp [Program.elem, ht]
  rw [run_indexAt_slice w t ⟨b, off, none⟩ len cap k i e1, if_pos ⟨h0, h1⟩, e2, sizeOk_run hs]
  simp [Addr.add_lit]

theorem op_indexAddr (hM : Mod P B ρ S a w m) {t : TypeId} {x i : Operand} (hop : o.op = .indexAddr t x i) (h : symOp P S n o = some r) (hc : ∀ c ∈ r.chks, c.den ρ = .bool true) : OpOk P B ρ S a m w o r := by
  unfold symOp at h
  rw [hop] at h
  dsimp only at h
  have hr := opv_rep hM x t
  split at h
  · cases h
  rename_i ix hix
  obtain ⟨k, iv, ei, hi⟩ := opInt_rep hM hix
  have hiv : (ix.den ρ).toInt = iv := by rw [hi]; rfl
  have dat : ∀ {y : X} {u e : TypeId}, Rep P w (avOf P m ρ B.fr S.heap) u (a.eval x) (y.den ρ) → elemTy P u = some e → elemTy P t = some e → sizeOk P e = true → (xCmp .geq ix (.int 0)).den ρ = .bool true → (xCmp .lss ix y.mkLen).den ρ = .bool true →
      ∃ v, (execOp a.eval o).run P w = .ok (.value v) w ∧ RepS P w (avOf P m ρ B.fr S.heap) m ρ (.iptr e (.idx y ix) 0) v := by
    intro y u e hr he ht hs c1 c2
    have c1 := chk_cmp c1
    have c2 := chk_cmp c2
    rw [mkLen_den] at c2
    simp only [cmpI, X.den, D.toInt, hi, decide_eq_true_eq] at c1 c2
    obtain ⟨hd, hsl, ad, cap, ev, h0 | ⟨b, off, rfl, hcap, hE⟩⟩ := hr.ofSl (elemTy_eq.1 he)
    · rw [h0] at c2; simp at c2; omega
    · refine ⟨.pointer (some ⟨b, off + iv.toNat * (cellTys P e).length, none⟩), ?_, ?_⟩
      · unfold execOp; rw [hop]
        simp only [Sem.run_bind, ev, ei, indexAt_run (elemTy_eq.1 ht) hs c1 c2, Result.andThen_ok, Sem.run_pure]
      · simp only [RepS, X.den]
        refine ⟨b, _, rfl, ?_⟩
        rw [hiv, aggL_agg]
        have hlt : iv.toNat < (y.den ρ).toSl.length := by omega
        have := hE.get (i := iv.toNat) (List.getElem?_eq_getElem hlt)
        rw [List.getD_eq_getElem?_getD, List.getElem?_eq_getElem hlt]
        exact this
  split at h
  · rename_i y u hx
    rw [hx] at hr
    simp only [RepS] at hr
    split at h
    · rename_i e he
      split at h
      · rename_i hcnd
        simp only [Bool.and_eq_true, beq_iff_eq] at hcnd
        cases h
        obtain ⟨v, h1, h2⟩ := dat hr he hcnd.1 hcnd.2 (hc _ (by simp)) (hc _ (by simp))
        exact OpOk.pure hM h1 rfl h2
      · cases h
    · cases h
  · rename_i y u hx
    rw [hx] at hr
    simp only [RepS] at hr
    split at h
    · rename_i e he
      split at h
      · rename_i hcnd
        simp only [Bool.and_eq_true, beq_iff_eq] at hcnd
        cases h
        obtain ⟨v, h1, h2⟩ := dat hr.1 he hcnd.1 hcnd.2 (hc _ (by simp)) (hc _ (by simp))
        exact OpOk.pure hM h1 rfl h2
      · cases h
    · cases h
  · rename_i rr hx
    rw [hx] at hr
    simp only [RepS] at hr
    obtain ⟨p, hp, ev, _⟩ := hr
    split at h
    · rename_i e c wr hob
      split at h
      · rename_i hcnd
        simp only [Bool.and_eq_true, beq_iff_eq] at hcnd
        cases h
        have c1 := chk_cmp (hc _ (List.mem_cons_self ..))
        have c2 := chk_cmp (hc _ (List.mem_cons_of_mem _ (List.mem_cons_self ..)))
        rw [mkLen_den] at c2
        simp only [cmpI, X.den, D.toInt, hi, decide_eq_true_eq] at c1 c2
        have hok := hM.sim.ok rr
        rw [hob, hp] at hok
        obtain ⟨es, xs, v, h1, h2, h3, h4, h5, h6⟩ := hok
        cases h1
        rw [h2] at c2
        simp only [D.toSl] at c2
        rcases h4.2 with ⟨hv, h0⟩ | ⟨g, cap, cur, hv, _⟩
        · omega
        · simp only at ev
          rw [hv] at ev
          refine OpOk.pure hM (v := .pointer (some ⟨g, 0 + iv.toNat * (cellTys P e).length, none⟩)) ?_ rfl ?_
          · unfold execOp; rw [hop]
            simp only [Sem.run_bind, ev, ei, indexAt_run (elemTy_eq.1 hcnd.1) hcnd.2 c1 c2, Result.andThen_ok, Sem.run_pure]
          · simp only [RepS]
            refine ⟨_, g, es.length, cap, hp, by simp only [hv], by rw [hiv]; exact c1, by rw [hiv]; omega, by rw [hiv]; simp⟩
      · cases h
    · cases h
  · rename_i es hx
    rw [hx] at hr
    simp only [RepS] at hr
    obtain ⟨b, n', c, ev, hn', hm⟩ := hr
    split at h
    · rename_i kk e he
      split at h
      · rename_i hcnd
        simp only [Bool.and_eq_true, beq_iff_eq, decide_eq_true_eq] at hcnd
        rw [Option.map_eq_some_iff] at h
        obtain ⟨s, hs, rfl⟩ := h
        have hkk : kk = iv := by simpa [X.den] using hi
        subst hkk
        have hlt : kk.toNat < es.toL.length := (List.getElem?_eq_some_iff.1 hs).1
        have cellsM : ∀ (l : SV) (q : Nat), RepSM P w (avOf P m ρ B.fr S.heap) m ρ l b q → ∀ j s, l.toL[j]? = some s → ∃ y, w.cell? ⟨b, q + j, none⟩ = some y ∧ ¬ avOf P m ρ B.fr S.heap b (q + j) ∧ RepS P w (avOf P m ρ B.fr S.heap) m ρ s y := by
          intro l
          induction l with
          | cons x l _ ih =>
            intro q hm j s hj
            simp only [RepSM] at hm
            obtain ⟨y, h1, h2, h3, h4⟩ := hm
            cases j with
            | zero => simp [SV.toL] at hj; subst hj; exact ⟨y, h1, h2, h3⟩
            | succ j =>
              obtain ⟨z, g1, g2, g3⟩ := ih (q + 1) h4 j s (by simpa [SV.toL] using hj)
              exact ⟨z, by rw [show q + (j + 1) = q + 1 + j by omega]; exact g1, by rw [show q + (j + 1) = q + 1 + j by omega]; exact g2, g3⟩
          | _ => intro q hm j s hj; simp [SV.toL] at hj
        obtain ⟨y, g1, g2, g3⟩ := cellsM es 0 hm _ _ hs
        have hk0 := hcnd.1.1
        have hkb : kk < (n' : Int) := by omega
        refine OpOk.pure hM (v := .pointer (some ⟨b, 0 + kk.toNat * (cellTys P e).length, none⟩)) ?_ rfl ?_
        · unfold execOp; rw [hop]
          simp only [Sem.run_bind, ev, ei, indexAt_run (elemTy_eq.1 he) hcnd.1.2 hk0 hkb, Result.andThen_ok, Sem.run_pure]
        · simp only [RepS]
          rw [hcnd.2, Nat.mul_one]
          exact ⟨b, _, y, rfl, g1, g2, g3⟩
      · cases h
    · cases h
  · cases h

theorem op_index (hM : Mod P B ρ S a w m) {t : TypeId} {x i : Operand} (hop : o.op = .index t x i) (h : symOp P S n o = some r) (hc : ∀ c ∈ r.chks, c.den ρ = .bool true) : OpOk P B ρ S a m w o r := by
  unfold symOp at h
  rw [hop] at h
  dsimp only at h
  have hr := opv_rep hM x t
  split at h
  · rename_i ix y u hix hx
    obtain ⟨k, iv, ei, hi⟩ := opInt_rep hM hix
    rw [hx] at hr
    simp only [RepS] at hr
    split at h
    · rename_i hcnd
      simp only [Bool.and_eq_true, beq_iff_eq] at hcnd
      cases h
      have c1 := chk_cmp (hc _ (List.mem_cons_self ..))
      have c2 := chk_cmp (hc _ (List.mem_cons_of_mem _ (List.mem_cons_self ..)))
      simp only [cmpI, X.den, D.toInt, hi, decide_eq_true_eq] at c1 c2
      obtain ⟨ev, hd, hl⟩ := hr.ofStr (isStr_eq.1 hcnd.1.1)
      generalize (y.den ρ).toStr = s at *
      have hsz : (ByteArray.mk s.toArray).size = s.length := by simp [ByteArray.size]
      have hlt : iv.toNat < s.length := by omega
      refine OpOk.pure hM (v := .int .u8 (GetElem.getElem s iv.toNat hlt).toNat) ?_ rfl ?_
      · unfold execOp; rw [hop]
        simp only [Sem.run_bind, ev, ei, run_index_string w t ⟨s.toArray⟩ k iv (isStr_eq.1 hcnd.1.2)]
        rw [dif_pos ⟨by simpa using c1, by rw [hsz]; exact c2⟩]
        rfl
      · simp only [RepS, X.den, hi, hd, D.toInt, D.toStr]
        rw [List.getD_eq_getElem?_getD, List.getElem?_eq_getElem hlt]
        refine .int (intKind_eq.1 hcnd.2) ?_ ?_
        · simp [IntKind.min, IntKind.signed]
        · have := (GetElem.getElem s iv.toNat hlt).toNat_lt
          simp [IntKind.max, IntKind.bits, IntKind.signed]
          omega
    · cases h
  · cases h
end
end Go.RX
namespace Go.RX

section
variable {P : Program} {B : Base} {ρ : List D} {S : SSt} {a : Act} {w w' : World} {m : Pl} {n : Nat} {o : Oper} {r : Out} {av av' : Av} {H H' : List SObj}

/-! len, max, min -/
theorem len_run {t : TypeId} {d : TypeDesc} (ht : P.underlying t = some d) (ty : TypeId) :
    (∀ e, d = .slice e → ∀ (b : Option Addr) (n c : Nat), (Builtin.len_ #[t] ty #[.slice b n c]).run P w = .ok (goInt n) w) ∧ (d = .string → ∀ s : ByteArray, (Builtin.len_ #[t] ty #[.string s]).run P w = .ok (goInt s.size) w) := by
  constructor
  · rintro e rfl b n c
    simp [Builtin.len_, run_underlying ht]
  · rintro rfl s
    simp [Builtin.len_, run_underlying ht]
theorem i64_max : IntKind.i64.max = 9223372036854775807 := by decide
theorem i64_min : IntKind.i64.min = -9223372036854775808 := by decide

theorem op_len (hM : Mod P B ρ S a w m) {c : Call} {x : Operand} {t : TypeId} (hop : o.op = .call c) (hcal : c.callee = .builtin .len) (hargs : c.args.toList = [x]) (htys : c.argTypes.toList = [t]) (h : symOp P S n o = some r) : OpOk P B ρ S a m w o r := by
  unfold symOp at h
  rw [hop] at h
  dsimp only at h
  rw [hcal, hargs, htys] at h
  dsimp only at h
  have hr := opv_rep hM x t
  have hrun : ∀ v, (Builtin.len_ #[t] o.type #[a.eval x]).run P w = .ok v w → (execOp a.eval o).run P w = .ok (.value v) w := by
    intro v hv
    have e1 : c.args = #[x] := by rw [← Array.toList_inj]; simpa using hargs
    have e2 : c.argTypes = #[t] := by rw [← Array.toList_inj]; simpa using htys
    unfold execOp; rw [hop]
    simp [resolve, hcal, invoke, builtin, e1, e2, hv]
  have num : ∀ {k : Nat} {y : X}, intKind P o.type = some .i64 → y.den ρ = .int k → (k : Int) ≤ 9223372036854775807 → RepS P w (avOf P m ρ B.fr S.heap) m ρ (.x y o.type) (goInt k) := by
    intro k y hk hy hle
    simp only [RepS, hy]
    exact .int (intKind_eq.1 hk) (by rw [i64_min]; omega) (by rw [i64_max]; exact hle)
  have dat : ∀ {y : X} {u : TypeId}, Rep P w (avOf P m ρ B.fr S.heap) u (a.eval x) (y.den ρ) → (if isStr P u && isStr P t && intKind P o.type == some .i64 then some { val := SV.x (.slen y) o.type }
          else if (elemTy P u).isSome && (elemTy P t).isSome && intKind P o.type == some .i64 then some { val := .x y.mkLen o.type } else none) = some r → OpOk P B ρ S a m w o r := by
    intro y u hr h
    split at h
    · rename_i hcnd
      simp only [Bool.and_eq_true, beq_iff_eq] at hcnd
      cases h
      obtain ⟨ev, hd, hl⟩ := hr.ofStr (isStr_eq.1 hcnd.1.1)
      refine OpOk.pure hM (hrun _ (by rw [ev]; exact (len_run (isStr_eq.1 hcnd.1.2) _).2 rfl _)) rfl ?_
      have : (ByteArray.mk (y.den ρ).toStr.toArray).size = (y.den ρ).toStr.length := by simp [ByteArray.size]
      rw [this]
      exact num hcnd.2 (by simp [X.den]) hl
    · split at h
      · rename_i hcnd
        simp only [Bool.and_eq_true, beq_iff_eq] at hcnd
        cases h
        obtain ⟨e, he⟩ := Option.isSome_iff_exists.1 hcnd.1.1
        obtain ⟨e', he'⟩ := Option.isSome_iff_exists.1 hcnd.1.2
        obtain ⟨hd, hsl, ad, cap, ev, _⟩ := hr.ofSl (elemTy_eq.1 he)
        refine OpOk.pure hM (hrun _ (by rw [ev]; exact (len_run (elemTy_eq.1 he') _).1 _ rfl _ _ _)) rfl ?_
        exact num hcnd.2 (by rw [mkLen_den]; simp [X.den]) hsl.1
      · cases h
  split at h
  · rename_i y u hx
    rw [hx] at hr
    simp only [RepS] at hr
    exact dat hr h
  · rename_i y u hx
    rw [hx] at hr
    simp only [RepS] at hr
    exact dat hr.1 h
  · rename_i rr hx
    rw [hx] at hr
    simp only [RepS] at hr
    obtain ⟨p, hp, ev, _⟩ := hr
    split at h
    · rename_i e c' wr hob
      split at h
      · rename_i hcnd
        simp only [Bool.and_eq_true, beq_iff_eq] at hcnd
        cases h
        obtain ⟨e', he'⟩ := Option.isSome_iff_exists.1 hcnd.1
        have hok := hM.sim.ok rr
        rw [hob, hp] at hok
        obtain ⟨es, xs, v, h1, h2, h3, h4, h5, h6⟩ := hok
        cases h1
        have hsh : ∃ b cap, v = .slice b es.length cap := by
          rcases h4.2 with ⟨hv, h0⟩ | ⟨g, cap, cur, hv, _⟩
          · exact ⟨none, 0, by rw [hv, h0]⟩
          · exact ⟨_, _, hv⟩
        obtain ⟨b, cap, hv⟩ := hsh
        refine OpOk.pure hM (hrun _ (by rw [ev]; simp only [hv]; exact (len_run (elemTy_eq.1 he') _).1 _ rfl _ _ _)) rfl ?_
        exact num hcnd.2 (by rw [mkLen_den]; simp [X.den, h2, D.toSl]) h3.1
      · cases h
    · cases h
  · rename_i hx
    rw [hx] at hr
    simp only [RepS] at hr
    split at h
    · rename_i hcnd
      simp only [Bool.and_eq_true, beq_iff_eq] at hcnd
      cases h
      obtain ⟨e', he'⟩ := Option.isSome_iff_exists.1 hcnd.1
      refine OpOk.pure hM (hrun _ (by rw [hr]; exact (len_run (elemTy_eq.1 he') _).1 _ rfl _ _ _)) rfl ?_
      exact num hcnd.2 (by simp [X.den]) (by simp)
    · cases h
  · rename_i es hx
    rw [hx] at hr
    simp only [RepS] at hr
    obtain ⟨b, n', cc, ev, hn', _⟩ := hr
    split at h
    · rename_i hcnd
      simp only [Bool.and_eq_true, beq_iff_eq, decide_eq_true_eq] at hcnd
      cases h
      obtain ⟨e', he'⟩ := Option.isSome_iff_exists.1 hcnd.1.1
      refine OpOk.pure hM (hrun _ (by rw [ev]; exact (len_run (elemTy_eq.1 he') _).1 _ rfl _ _ _)) rfl ?_
      exact num hcnd.1.2 (by simp [X.den, hn']) (by omega)
    · cases h
  · cases h

theorem intArgs_rep (hM : Mod P B ρ S a w m) {k : IntKind} : ∀ (as : List Operand) (ts : List TypeId) {xs : List X}, intArgs P S k as ts = some xs →
    as.map a.eval = xs.map (fun x => .int k (x.den ρ).toInt) ∧ ∀ x ∈ xs, ∃ i, x.den ρ = .int i ∧ k.min ≤ i ∧ i ≤ k.max
  | [], ts, xs, h => by simp [intArgs] at h; subst h; simp
  | c :: as, ts, xs, h => by
    simp only [intArgs] at h
    have hr := opv_rep hM c (ts.headD 0)
    split at h
    · rename_i b u l hb hl
      split at h
      · rename_i hk
        simp only [beq_iff_eq] at hk
        cases h
        rw [hb] at hr
        simp only [RepS] at hr
        obtain ⟨e, d, h1, h2⟩ := hr.ofInt (intKind_eq.1 hk)
        obtain ⟨g1, g2⟩ := intArgs_rep hM as ts.tail hl
        refine ⟨by simp [e, g1], fun x hx => ?_⟩
        rcases List.mem_cons.1 hx with rfl | hx
        · exact ⟨_, d, h1, h2⟩
        · exact g2 x hx
      · cases h
    · cases h

/-- the greatest, or the least, of some -/
theorem fold_ext {op : BinOp} {f2 : Value → Value → Sem Value} {k : IntKind} (hf : ∀ i j (w : World), (f2 (.int k i) (.int k j)).run P w = .ok (.int k (if cmpI op j i then j else i)) w) :
    ∀ (xs : List X) (x : X), (∃ i, x.den ρ = .int i ∧ k.min ≤ i ∧ i ≤ k.max) → (∀ y ∈ xs, ∃ i, y.den ρ = .int i ∧ k.min ≤ i ∧ i ≤ k.max) →
      ∃ i, (xs.foldl (fun a y => X.mkIte (xCmp op y a) y a) x).den ρ = .int i ∧ k.min ≤ i ∧ i ≤ k.max ∧
        ((xs.map fun y => Value.int k (y.den ρ).toInt).foldlM f2 (.int k (x.den ρ).toInt)).run P w = .ok (.int k i) w
  | [], x, ⟨i, h, h1, h2⟩, _ => ⟨i, h, h1, h2, by simp [h, D.toInt]⟩
  | y :: xs, x, ⟨i, h, h1, h2⟩, hy => by
    obtain ⟨j, hj, g1, g2⟩ := hy y (List.mem_cons_self ..)
    have e : (X.mkIte (xCmp op y x) y x).den ρ = .int (if cmpI op j i then j else i) := by
      rw [mkIte_den]
      simp only [X.den, xCmp, mkCmp_den, D.toBool, h, hj, D.toInt]
      cases cmpI op j i <;> rfl
    obtain ⟨q, q1, q2, q3, q4⟩ := fold_ext hf xs (X.mkIte (xCmp op y x) y x) ⟨_, e, by split <;> assumption, by split <;> assumption⟩ (fun z hz => hy z (List.mem_cons_of_mem _ hz))
    refine ⟨q, q1, q2, q3, ?_⟩
    rw [e] at q4
    simp only [D.toInt] at q4
    simp only [List.map_cons, List.foldlM_cons, Sem.run_bind, h, hj, D.toInt, hf, Result.andThen_ok]
    exact q4

theorem op_max (hM : Mod P B ρ S a w m) {c : Call} {x : Operand} {as : List Operand} (hop : o.op = .call c) (hcal : c.callee = .builtin .max) (hargs : c.args.toList = x :: as) (h : symOp P S n o = some r) : OpOk P B ρ S a m w o r := by
  unfold symOp at h
  rw [hop] at h
  dsimp only at h
  rw [hcal, hargs] at h
  dsimp only at h
  split at h
  · rename_i k hk
    split at h
    · rename_i y ys hys
      cases h
      obtain ⟨g1, g2⟩ := intArgs_rep hM _ _ hys
      obtain ⟨q, q1, q2, q3, q4⟩ := fold_ext (P := P) (w := w) (op := .gtr) (f2 := Builtin.max2) (k := k) (fun i j w => by simp [Builtin.max2, cmpI]) ys y (g2 y (List.mem_cons_self ..)) (fun z hz => g2 z (List.mem_cons_of_mem _ hz))
      refine OpOk.pure hM (v := .int k q) ?_ rfl ?_
      · have e1 : (c.args.map a.eval).toList = .int k (y.den ρ).toInt :: ys.map fun x => .int k (x.den ρ).toInt := by rw [Array.toList_map, hargs, g1]; rfl
        unfold execOp; rw [hop]
        simp only [resolve, hcal, invoke, builtin, Builtin.max_, Sem.run_bind, Sem.run_pure, Result.andThen_ok, e1, q4]
      · simp only [RepS, q1]
        exact .int (intKind_eq.1 hk) q2 q3
    · cases h
  · cases h
theorem op_min (hM : Mod P B ρ S a w m) {c : Call} {x : Operand} {as : List Operand} (hop : o.op = .call c) (hcal : c.callee = .builtin .min) (hargs : c.args.toList = x :: as) (h : symOp P S n o = some r) : OpOk P B ρ S a m w o r := by
  unfold symOp at h
  rw [hop] at h
  dsimp only at h
  rw [hcal, hargs] at h
  dsimp only at h
  split at h
  · rename_i k hk
    split at h
    · rename_i y ys hys
      cases h
      obtain ⟨g1, g2⟩ := intArgs_rep hM _ _ hys
      obtain ⟨q, q1, q2, q3, q4⟩ := fold_ext (P := P) (w := w) (op := .lss) (f2 := Builtin.min2) (k := k) (fun i j w => by simp [Builtin.min2, cmpI]) ys y (g2 y (List.mem_cons_self ..)) (fun z hz => g2 z (List.mem_cons_of_mem _ hz))
      refine OpOk.pure hM (v := .int k q) ?_ rfl ?_
      · have e1 : (c.args.map a.eval).toList = .int k (y.den ρ).toInt :: ys.map fun x => .int k (x.den ρ).toInt := by rw [Array.toList_map, hargs, g1]; rfl
        unfold execOp; rw [hop]
        simp only [resolve, hcal, invoke, builtin, Builtin.min_, Sem.run_bind, Sem.run_pure, Result.andThen_ok, e1, q4]
      · simp only [RepS, q1]
        exact .int (intKind_eq.1 hk) q2 q3
    · cases h
  · cases h
end
end Go.RX
namespace Go.RX

section
variable {P : Program} {B : Base} {ρ : List D} {S : SSt} {a : Act} {w w' : World} {m : Pl} {n : Nat} {o : Oper} {r : Out} {av av' : Av} {H H' : List SObj}

/-- what a bound of a slice expression is -/
def BoundIs (v : Option Value) (d x : Int) : Prop := (v = none ∧ x = d) ∨ ∃ k, v = some (.int k x)
theorem bound_rep (hM : Mod P B ρ S a w m) {lo : Option Operand} {d x : X} (h : bound P S lo d = some x) : BoundIs (lo.map a.eval) (d.den ρ).toInt (x.den ρ).toInt ∧ ((∃ i, d.den ρ = .int i) → ∃ i, x.den ρ = .int i) := by
  unfold bound at h
  split at h
  · cases h; exact ⟨.inl ⟨rfl, rfl⟩, id⟩
  · obtain ⟨k, i, e, hi⟩ := opInt_rep hM h
    exact ⟨.inr ⟨k, by rw [hi]; simp [e, D.toInt]⟩, fun _ => ⟨i, hi⟩⟩
theorem sliceBounds_run {sl : Bool} {len cap : Nat} {lo hi mx : Option Value} {l h mv : Int} (hl : BoundIs lo 0 l) (hh : BoundIs hi len h) (hm : (mx = none ∧ mv = cap) ∨ ((∃ k, mx = some (.int k mv)) ∧ hi ≠ none)) (h0 : 0 ≤ l) (h1 : l ≤ h) (h2 : h ≤ mv) (h3 : mv ≤ cap) :
    (Instr.sliceBounds sl len cap lo hi mx).run P w = .ok (l.toNat, h.toNat, mv.toNat) w := by
  have em : (mv.toNat : Int) = mv := Int.toNat_of_nonneg (by omega)
  have eh : (h.toNat : Int) = h := Int.toNat_of_nonneg (by omega)
  have b1 : ∀ k c, (Instr.sliceBound (.int k mv) cap c).run P w = .ok mv.toNat w := fun k c => run_sliceBound w k mv cap c (by omega) h3
  have b2 : ∀ k c, (Instr.sliceBound (.int k h) mv.toNat c).run P w = .ok h.toNat w := fun k c => run_sliceBound w k h mv.toNat c (by omega) (by omega)
  have b3 : ∀ k c, (Instr.sliceBound (.int k l) h.toNat c).run P w = .ok l.toNat w := fun k c => run_sliceBound w k l h.toNat c (by omega) (by omega)
  rcases hl with ⟨rfl, rfl⟩ | ⟨kl, rfl⟩ <;> rcases hm with ⟨rfl, rfl⟩ | ⟨⟨km, rfl⟩, hhi⟩ <;> rcases hh with ⟨rfl, rfl⟩ | ⟨kh, rfl⟩
  all_goals first
    | exact (hhi rfl).elim
    | (try simp only [Int.toNat_natCast] at b1 b2 b3 ⊢
       unfold Instr.sliceBounds
       simp only [Sem.run_bind, Sem.run_pure, Result.andThen_ok, b1, b2, b3, Int.toNat_zero])
theorem chk_geq {x y : X} (h : (xCmp .geq x y).den ρ = .bool true) : (y.den ρ).toInt ≤ (x.den ρ).toInt := by
  have := chk_cmp h
  simpa [cmpI] using this
theorem chk_leq {x y : X} (h : (xCmp .leq x y).den ρ = .bool true) : (x.den ρ).toInt ≤ (y.den ρ).toInt := by
  have := chk_cmp h
  simpa [cmpI] using this
theorem toInt_int (n : Int) : (D.int n).toInt = n := rfl

/-- data is sliced -/
theorem slice_data {t u e : TypeId} (ht : P.underlying t = some (.slice e)) (hu : P.underlying u = some (.slice e)) (hs : sizeOk P e = true) {v : Value} {d : D} (hr : Rep P w av u v d) {lo hi mx : Option Value} {l h : Int}
    (hl : BoundIs lo 0 l) (hh : BoundIs hi d.toSl.length h) (hm : mx = none ∨ ((∃ k, mx = some (.int k h)) ∧ hi ≠ none)) (h0 : 0 ≤ l) (h1 : l ≤ h) (h2 : h ≤ d.toSl.length) :
    ∃ v', (Instr.sliceAt t v lo hi mx).run P w = .ok v' w ∧ Rep P w av u v' (.sl ((d.toSl.take h.toNat).drop l.toNat)) ∧ (mx ≠ none → ∃ b n, v' = .slice b n n) := by
  obtain ⟨hd, hsl, ad, cap, rfl, hcases⟩ := hr.ofSl hu
  have hcap : d.toSl.length ≤ cap ∨ (d.toSl = []) := by
    rcases hcases with h0 | ⟨b, off, _, hc, _⟩
    · exact .inr h0
    · exact .inl hc
  have hcap' : (d.toSl.length : Int) ≤ cap := by
    rcases hcap with h | h
    · omega
    · rw [h]; simp
  have e1 : P.underlying t = some (.slice (P.elem t)) := by rw [ht]; simp [Program.elem, ht]
  have e2 : P.elem t = e := by simp [Program.elem, ht]
  have hlen : ((d.toSl.take h.toNat).drop l.toNat).length = h.toNat - l.toNat := by rw [List.length_drop, List.length_take]; omega
  have key : ∀ mv : Int, (mx = none ∧ mv = cap) ∨ ((∃ k, mx = some (.int k mv)) ∧ hi ≠ none) → h ≤ mv → mv ≤ cap →
      ∃ v', (Instr.sliceAt t (.slice ad d.toSl.length cap) lo hi mx).run P w = .ok v' w ∧ v' = .slice (if mv.toNat = l.toNat then ad else ad.map (·.add (l.toNat * (cellTys P e).length))) (h.toNat - l.toNat) (mv.toNat - l.toNat) ∧ Rep P w av u v' (.sl ((d.toSl.take h.toNat).drop l.toNat)) := by
    intro mv hmv hle hmc
    refine ⟨_, ?_, rfl, ?_⟩
    · rw [run_sliceAt_slice w t _ lo hi mx e1, run_slice_any w t ad _ cap e1, sliceBounds_run hl hh hmv h0 h1 hle hmc, e2]
      simp only [Result.andThen_ok, sizeOk_run hs]
      rfl
    · by_cases hz : h.toNat - l.toNat = 0
      · rw [List.eq_nil_of_length_eq_zero (hlen.trans hz), hz]
        exact .nil hu
      · rcases hcases with hn | ⟨b, off, rfl, hc, hE⟩
        · rw [hn] at h2; simp at h2; omega
        · rw [if_neg (by omega)]
          simp only [Option.map_some, Addr.add_lit]
          have hE' := (hE.take h.toNat).drop l.toNat (by rw [List.length_take]; omega)
          have := Rep.sl (P := P) (w := w) (av := av) hu (es := (d.toSl.take h.toNat).drop l.toNat) (cap := mv.toNat - l.toNat) ?_ (by rw [hlen]; omega) hE'
          · rw [hlen] at this; exact this
          · constructor
            · rw [hlen]; have := hsl.1; omega
            · intro b hb
              have := hsl.2 b hb
              rw [hlen]
              exact Nat.le_trans (Nat.mul_le_mul_right _ (by omega)) this
  rcases hm with rfl | ⟨⟨k, rfl⟩, hhi⟩
  · obtain ⟨v', g1, g2, g3⟩ := key cap (.inl ⟨rfl, rfl⟩) (by omega) (Int.le_refl _)
    exact ⟨v', g1, g3, fun h => (h rfl).elim⟩
  · obtain ⟨v', g1, g2, g3⟩ := key h (.inr ⟨⟨k, rfl⟩, hhi⟩) (Int.le_refl _) (by omega)
    exact ⟨v', g1, g3, fun _ => ⟨_, _, g2⟩⟩

/-- a string is sliced -/
theorem slice_str {t : TypeId} (ht : P.underlying t = some .string) {s : List UInt8} {lo hi : Option Value} {l h : Int} (hl : BoundIs lo 0 l) (hh : BoundIs hi s.length h) (h0 : 0 ≤ l) (h1 : l ≤ h) (h2 : h ≤ s.length) :
    (Instr.sliceAt t (.string ⟨s.toArray⟩) lo hi none).run P w = .ok (.string ⟨((s.take h.toNat).drop l.toNat).toArray⟩) w := by
  have hsz : (ByteArray.mk s.toArray).size = s.length := by simp [ByteArray.size]
  rw [run_sliceAt_string w t _ lo hi none ht]
  have := sliceBounds_run (P := P) (w := w) (sl := false) (len := s.length) (cap := s.length) (mx := none) (mv := s.length) hl hh (.inl ⟨rfl, rfl⟩) h0 h1 h2 (Int.le_refl _)
  simp only [Instr.slice, Sem.run_bind, run_underlying ht, Result.andThen_ok, Option.isSome_none, Bool.false_eq_true, if_false, hsz, this, Sem.run_pure]
  congr 2
  apply ByteArray.ext
  apply Array.ext'
  simp [List.extract_eq_take_drop, List.drop_take]

theorem Step.ofFroz (h : Sim P B ρ H m w) {rr : Nat} {e : TypeId} {c : X} {wr : Bool} (hr : hget H rr = .row e c wr) {val : SV} {v : Value} (hv : RepS P w (avOf P m ρ B.fr (hset H rr (.row e c false))) m ρ val v) : Step P B ρ H m w [(rr, .row e c false)] val m w v := by
  have hf : Froz H (hset H rr (.row e c false)) := fun o => by
    rw [hget_hset]
    split
    · rename_i ho; subst ho; exact .inr ⟨e, c, wr, hr, rfl⟩
    · exact .inl rfl
  exact ⟨h.froz hf, Pl.le_refl m, keepsAv_froz hf, hv, fun _ h _ => h⟩

theorem op_slice (hM : Mod P B ρ S a w m) {t : TypeId} {x : Operand} {lo hi mx : Option Operand} (hop : o.op = .slice t x lo hi mx) (h : symOp P S n o = some r) (hc : ∀ c ∈ r.chks, c.den ρ = .bool true) : OpOk P B ρ S a m w o r := by
  unfold symOp at h
  rw [hop] at h
  dsimp only at h
  have hr := opv_rep hM x t
  have hrun : ∀ v, (Instr.sliceAt t (a.eval x) (lo.map a.eval) (hi.map a.eval) (mx.map a.eval)).run P w = .ok v w → (execOp a.eval o).run P w = .ok (.value v) w := by
    intro v hv
    unfold execOp; rw [hop]
    simp only [Sem.run_bind, hv, Result.andThen_ok, Sem.run_pure]
  split at h
  · rename_i y u hx
    rw [hx] at hr
    simp only [RepS] at hr
    split at h
    · rename_i hst
      simp only [Bool.and_eq_true] at hst
      split at h
      · rename_i l hh hl hhh
        cases h
        have c0 := chk_geq (hc _ (List.mem_cons_self ..))
        have c1 := chk_leq (hc _ (List.mem_cons_of_mem _ (List.mem_cons_self ..)))
        have c2 := chk_leq (hc _ (List.mem_cons_of_mem _ (List.mem_cons_of_mem _ (List.mem_cons_self ..))))
        simp only [X.den, toInt_int] at c0 c1 c2
        obtain ⟨ev, hd, hlen⟩ := hr.ofStr (isStr_eq.1 hst.1)
        have b1 := (bound_rep hM hl).1
        have b2 := (bound_rep hM hhh).1
        simp only [X.den, toInt_int] at b1 b2
        refine OpOk.pure hM (hrun _ (by rw [ev]; exact slice_str (isStr_eq.1 hst.2) b1 b2 c0 c1 c2)) rfl ?_
        simp only [RepS, X.den]
        exact .str (isStr_eq.1 hst.1) (by rw [List.length_drop, List.length_take]; omega)
      · cases h
    · split at h
      · rename_i e e' he he'
        split at h
        · rename_i hcnd
          simp only [Bool.and_eq_true, beq_iff_eq] at hcnd
          obtain ⟨rfl, hs⟩ := hcnd
          split at h
          · rename_i l hh hl hhh
            have b1 := (bound_rep hM hl).1
            have b2 := (bound_rep hM hhh).1
            rw [mkLen_den] at b2
            simp only [X.den, toInt_int] at b1 b2
            have main : (∀ c ∈ [xCmp .geq l (.int 0), xCmp .leq l hh, xCmp .leq hh y.mkLen], c.den ρ = .bool true) → 0 ≤ (l.den ρ).toInt ∧ (l.den ρ).toInt ≤ (hh.den ρ).toInt ∧ (hh.den ρ).toInt ≤ ((y.den ρ).toSl.length : Int) := by
              intro hc
              have c0 := chk_geq (hc _ (List.mem_cons_self ..))
              have c1 := chk_leq (hc _ (List.mem_cons_of_mem _ (List.mem_cons_self ..)))
              have c2 := chk_leq (hc _ (List.mem_cons_of_mem _ (List.mem_cons_of_mem _ (List.mem_cons_self ..))))
              rw [mkLen_den] at c2
              simp only [X.den, toInt_int] at c0 c1 c2
              exact ⟨c0, c1, c2⟩
            split at h
            · cases h
              obtain ⟨c0, c1, c2⟩ := main hc
              obtain ⟨v', g1, g2, _⟩ := slice_data (elemTy_eq.1 he') (elemTy_eq.1 he) hs hr b1 b2 (.inl rfl) c0 c1 c2
              exact OpOk.pure hM (hrun _ g1) rfl (by simp only [RepS, X.den]; exact g2)
            · rename_i mm
              split at h
              · rename_i hm
                simp only [Bool.and_eq_true, beq_iff_eq] at hm
                cases h
                obtain ⟨c0, c1, c2⟩ := main hc
                obtain ⟨k, i, em, hi'⟩ := opInt_rep hM hm.2
                have hhi : hi ≠ none → hi.map a.eval ≠ none := by cases hi <;> simp
                have hmx : (some mm).map a.eval = none ∨ ((∃ k, (some mm).map a.eval = some (.int k (hh.den ρ).toInt)) ∧ hi.map a.eval ≠ none) := by
                  exact .inr ⟨⟨k, by simp [em, hi', toInt_int]⟩, hhi (by rintro rfl; simp at hm)⟩
                obtain ⟨v', g1, g2, g3⟩ := slice_data (elemTy_eq.1 he') (elemTy_eq.1 he) hs hr b1 b2 hmx c0 c1 c2
                refine OpOk.pure hM (hrun _ g1) rfl ?_
                simp only [RepS, X.den]
                exact ⟨g2, g3 (by simp)⟩
              · cases h
          · cases h
        · cases h
      · cases h
  · rename_i rr hx
    rw [hx] at hr
    simp only [RepS] at hr
    obtain ⟨p, hp, ev, _⟩ := hr
    split at h
    · rename_i e y wr hob
      split at h
      · rename_i hcnd
        simp only [Bool.and_eq_true, beq_iff_eq] at hcnd
        obtain ⟨he, hs⟩ := hcnd
        split at h
        · rename_i l hh hl hhh
          cases h
          have b1 := (bound_rep hM hl).1
          have b2 := (bound_rep hM hhh).1
          rw [mkLen_den] at b2
          simp only [X.den, toInt_int] at b1 b2
          have c0 := chk_geq (hc _ (List.mem_cons_self ..))
          have c1 := chk_leq (hc _ (List.mem_cons_of_mem _ (List.mem_cons_self ..)))
          have c2 := chk_leq (hc _ (List.mem_cons_of_mem _ (List.mem_cons_of_mem _ (List.mem_cons_self ..))))
          rw [mkLen_den] at c2
          simp only [X.den, toInt_int] at c0 c1 c2
          have hf : Froz S.heap (hset S.heap rr (.row e y false)) := fun o => by
            rw [hget_hset]
            split
            · rename_i ho; subst ho; exact .inr ⟨e, y, wr, hob, rfl⟩
            · exact .inl rfl
          have hrow : hget (hset S.heap rr (.row e y false)) rr = .row e y false := by rw [hget_hset, if_pos rfl]
          have hdat := row_rep hM.sim hob (elemTy_eq.1 he) hp (froz_free hM.sim hf hrow hp) (keepsAv_froz hf)
          rw [← ev] at hdat
          obtain ⟨v', g1, g2, _⟩ := slice_data (elemTy_eq.1 he) (elemTy_eq.1 he) hs hdat b1 b2 (.inl rfl) c0 c1 c2
          exact ⟨v', w, m, .inl (hrun _ g1), Step.ofFroz hM.sim hob (by simp only [RepS, X.den]; exact g2)⟩
        · cases h
      · cases h
    · cases h
  · cases h
end
end Go.RX
namespace Go.RX

section
variable {P : Program} {B : Base} {ρ : List D} {S : SSt} {a : Act} {w w' : World} {m : Pl} {n : Nat} {o : Oper} {r : Out} {av av' : Av} {H H' : List SObj}

theorem RepL.replicate {ts : List TypeId} {vs : List Value} {ds : List D} (h : RepL P w av ts vs ds) : ∀ n : Nat, RepL P w av (List.replicate n ts).flatten (List.replicate n vs).flatten (List.replicate n ds).flatten
  | 0 => by simp; exact .nil
  | n + 1 => by simpa [List.replicate_succ] using h.append (h.replicate n)
theorem madeCells_take (z : Array Value) (n N k : Nat) (hk : z.size = k) (hn : n ≤ N) : (madeCells z (N * k)).toList.take (n * k) = (List.replicate n z.toList).flatten := by
  subst hk
  apply List.ext_getElem?
  intro j
  have hmul : n * z.size ≤ N * z.size := Nat.mul_le_mul_right _ hn
  rw [List.getElem?_take, replicate_flatten_get]
  simp only [Array.length_toList]
  split
  · rename_i hj
    have hz : 0 < z.size := by
      rcases Nat.eq_zero_or_pos z.size with h | h
      · rw [h] at hj; simp at hj
      · exact h
    have hm : j % z.size < z.size := Nat.mod_lt _ hz
    simp [madeCells, show j < N * z.size by omega, hm]
  · rfl

theorem dataCells_free : ∀ {ss : List SV} {ts : List TypeId} {a : X} {fr : List Nat}, dataCells P [] ss ts = some (a, fr) → dataCells P H ss ts = some (a, fr) ∧ fr = []
  | [], [], a, fr, hd => by simp [dataCells] at hd; obtain ⟨rfl, rfl⟩ := hd; exact ⟨rfl, rfl⟩
  | s :: ss, t :: ts, a, fr, hd => by
    simp only [dataCells] at hd
    split at hd
    · rename_i a1 f1 b1 g1 h1 h2
      cases hd
      obtain ⟨e, rfl⟩ := dataCells_free h2
      have : dataCell P H s t = some (a1, f1) ∧ f1 = [] := by
        cases s <;> simp [dataCell, hget_nil] at h1 ⊢ <;> first | (obtain ⟨h1, rfl, rfl⟩ := h1; simp_all; done) | skip
      obtain ⟨e1, rfl⟩ := this
      simp [dataCells, e1, e]
    · cases hd
  | [], _ :: _, _, _, hd => by simp [dataCells] at hd
  | _ :: _, [], _, _, hd => by simp [dataCells] at hd

theorem op_makeSlice (hM : Mod P B ρ S a w m) (hn : (∃ q ∈ r.sets, q.1 = n) → m n = none) {t : TypeId} {l c : Operand} (hop : o.op = .makeSlice t l c) (h : symOp P S n o = some r) (hc : ∀ c ∈ r.chks, c.den ρ = .bool true) : OpOk P B ρ S a m w o r := by
  unfold symOp at h
  rw [hop] at h
  dsimp only at h
  split at h
  · rename_i e he
    split at h
    · rename_i b x cx z hb hl hcx hz
      split at h
      · rename_i zx fr hzx
        split at h
        · rename_i hcnd
          simp only [Bool.and_eq_true, bne_iff_ne, ne_eq] at hcnd
          obtain ⟨⟨hs, hb0⟩, hk0⟩ := hcnd
          cases h
          obtain ⟨i, zv, hi, hzv, hzr⟩ := zeroCells_info hz
          have hsz := (sizeOk_eq hs).1
          simp only [sizeOf', hi, Option.map_some, Option.some.injEq] at hsz
          have hb' := hb
          simp only [bytesOf', hi, Option.map_some, Option.some.injEq] at hb'
          obtain ⟨kl, li, el, dl⟩ := opInt_rep hM hl
          obtain ⟨kc, ci, ec, dc⟩ := opInt_rep hM hcx
          have c0 := chk_geq (hc _ (List.mem_cons_self ..))
          have c1 := chk_leq (hc _ (List.mem_cons_of_mem _ (List.mem_cons_self ..)))
          have c2 := chk_leq (hc _ (List.mem_cons_of_mem _ (List.mem_cons_of_mem _ (List.mem_cons_self ..))))
          simp only [X.den, toInt_int, dl, dc] at c0 c1 c2
          obtain ⟨hd1, _⟩ := dataCells_free (H := S.heap) hzx
          obtain ⟨ds, hds, hrz⟩ := dataCells_rep (H' := S.heap) hM.sim hd1 (hzr w (avOf P m ρ B.fr S.heap) m ρ) ⟨Froz.refl _, fun r hr => by simp [(dataCells_free (H := S.heap) hzx).2] at hr⟩
          have hzs : zv.cells.size = (cellTys P e).length := by have := hrz.length_tys; simpa using this
          have ediv : (140737488355328 : Int) / (b : Int) = ((140737488355328 / b : Nat) : Int) := by rw [Int.natCast_ediv]; rfl
          rw [ediv] at c2
          have hbc : b * ci.toNat ≤ 140737488355328 := by
            have h1 : ci.toNat ≤ 140737488355328 / b := by omega
            have := Nat.mul_le_mul_left b h1
            exact Nat.le_trans this (Nat.mul_div_le _ _)
          have hcb : ci.toNat ≤ 140737488355328 := Nat.le_trans (Nat.le_mul_of_pos_left _ (by omega)) hbc
          have hbytes : (i.bytes : Int) * ci ≤ 281474976710656 := by
            have : ((i.bytes * ci.toNat : Nat) : Int) ≤ 281474976710656 := by rw [hb']; omega
            rwa [Int.natCast_mul, Int.toNat_of_nonneg (by omega)] at this
          have hrun := run_make (P := P) w t e i zv (elemTy_eq.1 he) hi hzv kl kc li ci c0 c1 hbytes (by omega)
          have hlen : (List.replicate li.toNat ds).length = li.toNat := List.length_replicate
          have hlb : li.toNat * b ≤ 140737488355328 := by rw [Nat.mul_comm]; exact Nat.le_trans (Nat.mul_le_mul_left b (by omega)) hbc
          refine ⟨_, _, _, .inl ?_, Step.layRow (w' := w.alloc (.cells (madeCells zv.cells (ci.toNat * i.size)) e)) (v := .slice (some ⟨w.heap.size, 0, none⟩) li.toNat ci.toNat) (es := List.replicate li.toNat ds) (xs := (List.replicate li.toNat zv.cells.toList).flatten) hM.sim (hn ⟨_, List.mem_cons_self .., rfl⟩) (Ext.alloc w _) (fun b hb => by cases hb; exact Nat.le_refl _) ?_ ?_ ?_ ?_ ?_ ⟨_, _, _, rfl⟩⟩
          · unfold execOp; rw [hop]
            simp only [Sem.run_bind, el, ec, hrun, Result.andThen_ok, Sem.run_pure]
          · simp only [X.den, dl, hds, toInt_int, aggL_agg]
          · refine ⟨by rw [hlen]; omega, fun b' hb' => ?_⟩
            rw [hb] at hb'; cases hb'
            rw [hlen]; exact hlb
          · rw [hlen]
            refine ⟨?_, .inr ⟨w.heap.size, ci.toNat, _, rfl, Nat.zero_le _, heap_alloc_new w _, by omega, by simp only [maxLen]; omega, by rw [size_madeCells, hsz], ?_⟩⟩
            · rw [flatten_len _ (cellTys P e).length (fun x hx => by rw [(List.mem_replicate.1 hx).2]; simpa using hzs), List.length_replicate]
            · rw [hsz, madeCells_take _ _ _ _ hzs (by omega)]
          · intro x hx
            rw [(List.mem_replicate.1 hx).2]
            exact hrz.length_ds
          · rw [hlen]
            exact hrz.replicate li.toNat
        · cases h
      · cases h
    · cases h
  · cases h

theorem group_rows (h : Sim P B ρ H m w) {ts : List TypeId} : ∀ (len : Nat) {cs : List SV} {vs : List Value} {a : X} {fr : List Nat}, dataRows P H ts (group ts.length len cs) = some (a, fr) → RepSs P w (avOf P m ρ B.fr H) m ρ cs vs → cs.length = len * ts.length → FrozIn H H' fr →
    ∃ es, es.length = len ∧ (a.den ρ).aggL.map D.aggL = es ∧ (∀ x ∈ es, x.length = ts.length) ∧ RepL P w (avOf P m ρ B.fr H') (List.replicate len ts).flatten vs es.flatten
  | 0, cs, vs, a, fr, hd, hr, hl, _ => by
    simp [group, dataRows] at hd
    obtain ⟨rfl, rfl⟩ := hd
    have : cs = [] := List.eq_nil_of_length_eq_zero (by simpa using hl)
    subst this
    match vs, hr with
    | [], _ => exact ⟨[], rfl, by simp [X.den, D.aggL], by simp, by simp; exact .nil⟩
  | len + 1, cs, vs, a, fr, hd, hr, hl, hf => by
    simp only [group, dataRows] at hd
    split at hd
    · rename_i a1 f1 b1 g1 h1 h2
      cases hd
      rw [Nat.succ_mul] at hl
      obtain ⟨ds, e1, l1⟩ := dataCells_rep (H' := H') h h1 (hr.take ts.length) hf.left
      obtain ⟨es, g1, g2, g3, g4⟩ := group_rows h len h2 (hr.drop ts.length) (by rw [List.length_drop]; omega) hf.right
      refine ⟨ds :: es, by simp [g1], by simp only [X.den, e1, aggL_agg, List.map_cons, g2], fun x hx => ?_, ?_⟩
      · rcases List.mem_cons.1 hx with rfl | hx
        · exact l1.length_ds
        · exact g3 x hx
      · have := l1.append g4
        rw [List.take_append_drop] at this
        simpa [List.replicate_succ] using this
    · cases hd

theorem RepSs.toM {av : Av} {b : Nat} : ∀ {ss : List SV} {vs : List Value} {off : Nat}, RepSs P w av m ρ ss vs → (∀ j v, vs[j]? = some v → w'.cell? ⟨b, off + j, none⟩ = some v) → (∀ off, ¬ av b off) → KeepsAv av w w' av → RepSM P w' av m ρ (.ofL ss) b off
  | [], _, _, _, _, _, _ => by simp [SV.ofL, RepSM]
  | s :: ss, v :: vs, off, h, hc, ha, hk => by
    simp only [SV.ofL, RepSM]
    exact ⟨v, by simpa using hc 0 v rfl, ha _, RepS.keeps hk (Pl.le_refl m) s h.1, h.2.toM (fun j u hj => by rw [show off + 1 + j = off + (j + 1) by omega]; exact hc (j + 1) u (by simpa using hj)) ha hk⟩
  | _ :: _, [], _, h, _, _, _ => h.elim

theorem av_lt (h : Sim P B ρ H m w) {b off : Nat} (ha : avOf P m ρ B.fr H b off) : b < w.heap.size := by
  rcases ha with hF | ⟨o, p, hp, hb, hr⟩
  · exact Nat.lt_of_lt_of_le (h.old b off hF) h.ext.size
  · have hl : hget H o ≠ .dead := fun e => by rw [e] at hr; exact hr
    exact ObjOk.lt hl (hp ▸ h.ok o) hb
theorem SV.toL_ofL : ∀ (l : List SV), (SV.ofL l).toL = l
  | [] => rfl
  | a :: l => by simp [SV.ofL, SV.toL, SV.toL_ofL l]

theorem op_buildSlice (hM : Mod P B ρ S a w m) (hn : (∃ q ∈ r.sets, q.1 = n) → m n = none) {t : TypeId} {len : Nat} {parts : Array (Nat × Operand)} (hop : o.op = .buildSlice t len parts) (h : symOp P S n o = some r) : OpOk P B ρ S a m w o r := by
  unfold symOp at h
  rw [hop] at h
  dsimp only at h
  split at h
  · rename_i e he
    split at h
    · cases h
    rename_i hcnd
    simp only [Bool.or_eq_true, Bool.not_eq_true', Bool.and_eq_true, decide_eq_true_eq, beq_iff_eq, not_or, not_and, Bool.not_eq_false, Nat.not_lt] at hcnd
    obtain ⟨⟨⟨⟨hs, hsmall⟩, hk0⟩, hemp⟩, hzok⟩ := hcnd
    have hlen1 : len ≤ 1000000 := Nat.le_trans (Nat.le_mul_of_pos_right _ (by omega)) hsmall
    split at h
    · rename_i z hz
      split at h
      · rename_i cs hcs
        obtain ⟨i', zv, hi, hzv, hzr⟩ := zeroCells_info hz
        have hsz := (sizeOk_eq hs).1
        simp only [sizeOf', hi, Option.map_some, Option.some.injEq] at hsz
        have hzl : z.length = zv.cells.size := by rw [(hzr w (avOf P m ρ B.fr S.heap) m ρ).length]; simp
        have hzs : zv.cells.size = (cellTys P e).length := by
          obtain ⟨z', h1, h2⟩ := zeroOk_eq hzok
          rw [hz] at h1; cases h1
          rw [← hzl]; exact h2
        -- the cells, filled
        have hz0 : RepSs P w (avOf P m ρ B.fr S.heap) m ρ (List.replicate len z).flatten (List.replicate len zv.cells.toList).flatten := RepSs.replicate (hzr _ _ _ _) len
        have hfill : ∃ cells, (Instr.buildSlice t len (parts.map fun (i, x) => (i, a.eval x))).run P w = .ok (.slice (some ⟨w.heap.size, 0, none⟩) len len) (w.alloc (.cells cells e)) ∧ RepSs P w (avOf P m ρ B.fr S.heap) m ρ cs cells.toList ∧ cells.size = len * (cellTys P e).length := by
          have e0 : (parts.map fun (x : Nat × Operand) => (x.1, a.eval x.2)).toList = parts.toList.map fun p => (p.1, a.eval p.2) := by simp
          have hmade : (madeCells zv.cells (len * (cellTys P e).length)).toList = (List.replicate len zv.cells.toList).flatten := by
            rw [← madeCells_take zv.cells len len _ hzs (Nat.le_refl _), List.take_of_length_le]
            simp [size_madeCells]
          obtain ⟨cells, f1, f2, f3⟩ := fill_rep (pl := fun i => some (i * (cellTys P e).length, e)) (place := fun i => some (i * i'.size, i'.size)) (cells := madeCells zv.cells (len * (cellTys P e).length)) hM (fun i off u hp _ => by cases hp; rw [hsz]) parts.toList hcs (by rw [hmade]; exact hz0)
          rw [size_madeCells] at f3
          refine ⟨cells, ?_, f2, f3⟩
          by_cases hl0 : len = 0
          · subst hl0
            have hpe : parts = #[] := by simpa using hemp rfl
            subst hpe
            have : cells = #[] := by rw [← Array.size_eq_zero_iff, f3]; simp
            subst this
            simp [Instr.buildSlice, run_underlying (elemTy_eq.1 he), sizeOf, typeInfo, hi, newRow, Instr.fill, Array.range_zero']
          · have hpos : ¬ len * i'.size = 0 := by rw [hsz]; exact Nat.mul_ne_zero hl0 hk0
            refine run_buildSlice w t e len _ cells i' zv (elemTy_eq.1 he) hi hzv (by rw [hsz]; omega) hpos ?_
            rw [hsz, e0]
            rw [hsz] at f1
            exact f1
        obtain ⟨cells, hrun, hcr, hcz⟩ := hfill
        have hrun' : (execOp a.eval o).run P w = .ok (.value (.slice (some ⟨w.heap.size, 0, none⟩) len len)) (w.alloc (.cells cells e)) := by
          unfold execOp; rw [hop]
          simp only [Sem.run_bind, hrun, Result.andThen_ok, Sem.run_pure]
        have hcl : cs.length = len * (cellTys P e).length := by rw [hcr.length, Array.length_toList]; exact hcz
        split at h
        · rename_i x fr by' hrows hby
          split at h
          · rename_i hb
            cases h
            obtain ⟨es, g1, g2, g3, g4⟩ := group_rows (H' := hsets S.heap (frost S.heap fr)) hM.sim len hrows hcr hcl (FrozIn.frost _ _)
            have hsim := hM.sim.froz (FrozIn.frost S.heap fr).1
            refine ⟨_, _, _, .inl hrun', Step.froz hM.sim (Step.layRow (es := es) (xs := cells.toList) hsim (hn ⟨_, List.mem_append_right _ (List.mem_cons_self ..), rfl⟩) (Ext.alloc w _) (fun b hb => by cases hb; exact Nat.le_refl _) (by simp only [X.den, g2]) ?_ ?_ g3 ?_ ⟨_, _, _, rfl⟩)⟩
            · refine ⟨by rw [g1]; omega, fun b' hb' => ?_⟩
              rw [hby] at hb'; cases hb'
              rw [g1]; omega
            · rw [g1]
              exact ⟨by simpa using hcz, .inr ⟨w.heap.size, len, cells, rfl, Nat.zero_le _, heap_alloc_new w _, Nat.le_refl _, by simp only [maxLen]; omega, hcz, by rw [← hcz, ← Array.length_toList, List.take_length]⟩⟩
            · rw [g1]; exact g4
          · cases h
        · split at h
          · rename_i hk1
            simp only [Bool.and_eq_true, beq_iff_eq, Bool.not_eq_true'] at hk1
            cases h
            refine ⟨_, _, m, .inl hrun', Step.layNone hM.sim (Ext.alloc w _) ?_⟩
            simp only [RepS, SV.toL_ofL]
            refine ⟨w.heap.size, len, len, rfl, by rw [hcl, hk1.1, Nat.mul_one], hcr.toM (fun j v hj => ?_) (fun off hav => ?_) ?_⟩
            · rw [cell_of_row _ _ _ cells e (0, 0) (heap_alloc_new w _)]
              simpa using hj
            · have := av_lt hM.sim hav
              omega
            · intro b off u hu ha
              exact ⟨by rw [cell?_of_heap_eq ((Ext.alloc w (.cells cells e)).block b (World.block_lt_of_cell? w ⟨b, off, none⟩ hu) (fun f => f))]; exact hu, ha⟩
          · cases h
        · cases h
      · cases h
    · cases h
  · cases h
end
end Go.RX
namespace Go.RX

section
variable {P : Program} {B : Base} {ρ : List D} {S : SSt} {a : Act} {w w' : World} {m : Pl} {n : Nat} {o : Oper} {r : Out} {av av' : Av} {H H' : List SObj}

theorem Adds.keeps {e u : TypeId} {x : Value} {es : List (List D)} {news : List Value} (h : Adds P w av e u x es news) (hk : KeepsAv av w w av') : Adds P w av' e u x es news :=
  ⟨h.kind, h.len, h.cells, h.rep.keeps hk, h.lens⟩
theorem RepL.flat_append {e : TypeId} {n k : Nat} {xs ys : List Value} {es fs : List (List D)} (h : RepL P w av (rowTys P e n) xs es.flatten) (h' : RepL P w av (rowTys P e k) ys fs.flatten) : RepL P w av (rowTys P e (n + k)) (xs ++ ys) (es ++ fs).flatten := by
  have e1 : rowTys P e (n + k) = rowTys P e n ++ rowTys P e k := by rw [rowTys, rowTys, rowTys, ← List.flatten_append, List.replicate_append_replicate]
  rw [e1, List.flatten_append]
  exact h.append h'

theorem op_append (hM : Mod P B ρ S a w m) (hn : (∃ q ∈ r.sets, q.1 = n) → m n = none) {c : Call} {x y : Operand} {t u : TypeId} (hop : o.op = .call c) (hcal : c.callee = .builtin .append) (hargs : c.args.toList = [x, y]) (htys : c.argTypes.toList = [t, u])
    (h : symOp P S n o = some r) (hc : ∀ c ∈ r.chks, c.den ρ = .bool true) : OpOk P B ρ S a m w o r := by
  unfold symOp at h
  rw [hop] at h
  dsimp only at h
  rw [hcal, hargs, htys] at h
  dsimp only at h
  have hrx := opv_rep hM x t
  have hry := opv_rep hM y u
  have hrun : ∀ v w', (Builtin.append_ #[t, u] o.type #[a.eval x, a.eval y]).run P w = .ok v w' → (execOp a.eval o).run P w = .ok (.value v) w' := by
    intro v w' hv
    have e1 : c.args = #[x, y] := by rw [← Array.toList_inj]; simpa using hargs
    have e2 : c.argTypes = #[t, u] := by rw [← Array.toList_inj]; simpa using htys
    unfold execOp; rw [hop]
    simp [resolve, hcal, invoke, builtin, e1, e2, hv]
  split at h
  · rename_i e he
    split at h
    · rename_i by' hby
      split at h
      · cases h
      rename_i hcnd
      simp only [Bool.or_eq_true, not_or, beq_iff_eq, Bool.not_eq_true, Bool.not_eq_false'] at hcnd
      obtain ⟨⟨⟨hb0, hs⟩, hk0⟩, hz⟩ := hcnd
      split at h
      · rename_i xs fr hadd
        -- what is to be appended
        have hadds : ∃ news, Adds P w (avOf P m ρ B.fr (hsets S.heap (frost S.heap fr))) e u (a.eval y) (xs.den ρ).toSl news ∧ ∃ es, xs.den ρ = .sl es := by
          split at hadd
          · rename_i hu
            split at hadd
            · rename_i yx v hy
              split at hadd
              · rename_i hv
                simp only [Bool.and_eq_true, beq_iff_eq] at hv
                cases hadd
                rw [hy] at hry
                simp only [RepS] at hry
                have hyu : Rep P w (avOf P m ρ B.fr S.heap) u (a.eval y) (yx.den ρ) := by
                  obtain ⟨e1, e2, e3⟩ := hry.ofStr (isStr_eq.1 hv.1)
                  rw [e1, e2]; exact .str (isStr_eq.1 hu) e3
                obtain ⟨news, ha⟩ := adds_string (isStr_eq.1 hu) (intKind_eq.1 hv.2) hyu
                exact ⟨news, by simpa [X.den, D.toSl] using ha.keeps (keepsAv_froz (FrozIn.frost S.heap []).1), _, rfl⟩
              · cases hadd
            · cases hadd
          · split at hadd
            · rename_i hu
              simp only [beq_iff_eq] at hu
              have hd := dataOf_rep (H' := hsets S.heap (frost S.heap fr)) hM.sim hadd hry (FrozIn.frost _ _)
              obtain ⟨news, ha⟩ := adds_slice (elemTy_eq.1 hu) hd
              exact ⟨news, ha, _, (hd.ofSl (elemTy_eq.1 hu)).1⟩
            · cases hadd
        obtain ⟨news, ha, es, hes⟩ := hadds
        have hes' : (xs.den ρ).toSl = es := by rw [hes]; rfl
        rw [hes'] at ha
        have hsim := hM.sim.froz (FrozIn.frost S.heap fr).1
        have hkf : KeepsAv (avOf P m ρ B.fr S.heap) w w (avOf P m ρ B.fr (hsets S.heap (frost S.heap fr))) := keepsAv_froz (FrozIn.frost S.heap fr).1
        have sl : ∀ {N : Nat}, (N + es.length) * by' ≤ 140737488355328 → ∀ {fs : List (List D)}, fs.length = N + es.length → SlOk P e fs := by
          intro N hN fs hfs
          refine ⟨?_, fun b hb => ?_⟩
          · have : N + es.length ≤ 140737488355328 := Nat.le_trans (Nat.le_mul_of_pos_right _ (by omega)) hN
            omega
          · rw [hby] at hb; cases hb
            rw [hfs]; exact hN
        have fits : ∀ {cx : X}, (X.fits cx xs by').den ρ = .bool true → ((cx.den ρ).toSl.length + es.length) * by' ≤ 140737488355328 := by
          intro cx h
          simpa [X.den, hes'] using h
        split at h
        · rename_i rr hx
          rw [hx] at hrx
          simp only [RepS] at hrx
          obtain ⟨p, hp, ev, _⟩ := hrx
          split at h
          · rename_i e' cx wr hob
            split at h
            · rename_i hcnd
              simp only [Bool.and_eq_true, beq_iff_eq, Bool.not_eq_true'] at hcnd
              obtain ⟨rfl, hnc⟩ := hcnd
              cases h
              have hnot : hget (hsets S.heap (frost S.heap fr)) rr = .row e cx wr := by
                rw [hget_hsets_out _ _ _ (fun q' hq' e' => by have := (frost_ids fr q' hq').1; rw [e'] at this; simp [this] at hnc), hob]
              have hok := hsim.ok rr
              rw [hnot, hp] at hok
              obtain ⟨es0, xs0, v, h1, h2, h3, h4, h5, h6⟩ := hok
              cases h1
              have hb := fits (hc _ (List.mem_cons_self ..))
              rw [h2] at hb
              simp only [D.toSl] at hb
              obtain ⟨v', w', g1, g2, g3, g4, g5, g6⟩ := append_own (ty := o.type) (elemTy_eq.1 he) hs hby hz ha h4 hb hb0
              rw [← List.length_append] at g2
              refine ⟨_, _, _, .inl (hrun _ _ (by rw [ev]; exact g1)), Step.froz hM.sim (Step.turnRow hsim (hn ⟨_, List.mem_append_right _ (List.mem_cons_of_mem _ (List.mem_cons_self ..)), rfl⟩) hnot hp g3 h2 g4 g5 ?_ ?_ (sl hb (by simp)) g2 ?_ ?_ g6)⟩
              · simp only [X.den, h2, hes, D.toSl]
              · simp
              · intro z hz
                rcases List.mem_append.1 hz with hz | hz
                · exact h5 z hz
                · exact ha.lens z hz
              · rw [List.length_append]; exact h6.flat_append ha.rep
            · cases h
          · cases h
        · rename_i hx
          rw [hx] at hrx
          simp only [RepS] at hrx
          cases h
          have hb := fits (hc _ (List.mem_cons_self ..))
          simp only [X.den, D.aggL, List.map_nil, D.toSl, List.length_nil] at hb
          obtain ⟨v', w', g1, g2, g3, g4, g5, g6⟩ := append_own (ty := o.type) (elemTy_eq.1 he) hs hby hz ha (World.ownsRow_nil w 0 e _) hb hb0
          rw [Nat.zero_add] at g2
          refine ⟨_, _, _, .inl (hrun _ _ (by rw [hrx]; exact g1)), Step.froz hM.sim (Step.layRow hsim (hn ⟨_, List.mem_append_right _ (List.mem_cons_self ..), rfl⟩) ⟨g3.os, g3.tape, g3.output, g3.size, fun b hb _ => g3.block b hb (fun h => by cases h)⟩ (fun b hb => (g5 b hb).resolve_left (fun h => by cases h)) (es := es) ?_ (sl hb (by simp)) g2 ha.lens ha.rep g6)⟩
          simp [X.den, hes, D.toSl, D.aggL]
        · rename_i ax v hx
          rw [hx] at hrx
          simp only [RepS] at hrx
          obtain ⟨hra, b0, N, ev⟩ := hrx
          split at h
          · rename_i hev
            simp only [beq_iff_eq] at hev
            -- the old slice's cells
            obtain ⟨olds, hold⟩ := adds_slice (elemTy_eq.1 hev) (hra.keeps hkf)
            have hd := (hra.ofSl (elemTy_eq.1 hev)).1
            have hNl : N = (ax.den ρ).toSl.length := by
              obtain ⟨_, _, ad, cap, ev', _⟩ := hra.ofSl (elemTy_eq.1 hev)
              rw [ev] at ev'; cases ev'; rfl
            obtain ⟨z, hzz, hzl⟩ := zeroOk_eq hz
            have hxl : olds.length = N * (cellTys P e).length := by rw [hold.rep.length_tys, rowTys_len, hNl]
            have hocells : ∀ w' : World, w'.heap = w.heap → (Builtin.firstCells (cellTys P e).length N (a.eval x)).run P w' = .ok olds.toArray w' := by
              intro w' hw; rw [hNl]; exact hold.cells w' hw
            have grow : (X.fits ax xs by').den ρ = .bool true → es.length ≠ 0 → ∃ cap' cur, (Builtin.append_ #[t, u] o.type #[a.eval x, a.eval y]).run P w = .ok (.slice (some ⟨w.heap.size, 0, none⟩) (N + es.length) cap') (w.drew.alloc (.cells cur e)) ∧
                (w.drew.alloc (.cells cur e)).ownsRow 0 e (cellTys P e).length (.slice (some ⟨w.heap.size, 0, none⟩) (N + es.length) cap') (N + es.length) (olds ++ news) := by
              intro hf h0
              have hb := fits hf
              rw [← hNl] at hb
              obtain ⟨cap', cur, g1, g2, g3, g4, g5⟩ := (append_run (w' := w) (ty := o.type) (elemTy_eq.1 he) hs hby hzz hzl ha ev hxl hocells hb hb0).1 (by omega)
              refine ⟨cap', cur, g1, ?_, .inr ⟨w.heap.size, cap', cur, rfl, Nat.zero_le _, heap_alloc_new w.drew _, g2, g3, g4, g5⟩⟩
              rw [List.length_append, hxl, ha.rep.length_tys, rowTys_len, Nat.add_mul]
            have hx0 : ∀ cur, Ext (fun _ => False) w (w.drew.alloc (.cells cur e)) := fun cur => (Ext.drew w).trans (Ext.alloc w.drew _) (fun _ _ f => f)
            have hlens : ∀ z ∈ (ax.den ρ).toSl ++ es, z.length = (cellTys P e).length := by
              intro z hz
              rcases List.mem_append.1 hz with hz | hz
              · exact hold.lens z hz
              · exact ha.lens z hz
            have hcat : (X.app ax xs).den ρ = .sl ((ax.den ρ).toSl ++ es) := by simp only [X.den, hes']
            have hrep : RepL P w (avOf P m ρ B.fr (hsets S.heap (frost S.heap fr))) (rowTys P e ((ax.den ρ).toSl ++ es).length) (olds ++ news) ((ax.den ρ).toSl ++ es).flatten := by
              rw [List.length_append]; exact hold.rep.flat_append ha.rep
            split at h
            · rename_i p q hlit
              cases h
              have hne : es.length ≠ 0 := by
                rw [← hes']
                simp [X.den, D.toSl, D.aggL]
              have hf := hc _ (List.mem_cons_self ..)
              obtain ⟨cap', cur, g1, g2⟩ := grow hf hne
              have hb := fits hf
              rw [hNl, ← List.length_append] at g2
              refine ⟨_, _, _, .inl (hrun _ _ g1), Step.froz hM.sim (Step.layRow (es := (ax.den ρ).toSl ++ es) hsim (hn ⟨_, List.mem_append_right _ (List.mem_cons_self ..), rfl⟩) (hx0 cur) (fun b hb => by cases hb; exact Nat.le_refl _) hcat (sl hb (by simp)) ?_ hlens hrep ⟨_, _, _, rfl⟩)⟩
              rw [hNl, ← List.length_append]
              exact g2
            · cases h
              have hf := hc _ (List.mem_cons_self ..)
              have hb := fits hf
              have e0 : ∀ l : List (Nat × SObj), l = l ++ [] := fun l => by simp
              by_cases h0 : es.length = 0
              · have hes0 : es = [] := List.eq_nil_of_length_eq_zero h0
                have hnews : news = [] := List.eq_nil_of_length_eq_zero (by rw [ha.rep.length_tys, rowTys_len, h0]; simp)
                have hb' := hb
                rw [← hNl] at hb'
                have hrn := (append_run (w' := w) (ty := o.type) (elemTy_eq.1 he) hs hby hzz hzl ha ev hxl hocells hb' hb0).2 (by omega) (fun ad had => by rw [hnews]; rfl) (fun _ => rfl)
                refine ⟨_, w, m, .inl (hrun _ _ hrn), ?_⟩
                dsimp only
                rw [e0 (frost S.heap fr)]
                refine Step.froz hM.sim (Step.pure hsim ?_)
                simp only [RepS, hcat]
                rw [hes0, List.append_nil, ← hd, List.length_nil, Nat.add_zero, ← ev]
                exact sameTy_rep (by simp [sameTy, elemTy_eq.1 hev, elemTy_eq.1 he]) (hra.keeps hkf)
              · obtain ⟨cap', cur, g1, g2⟩ := grow hf h0
                refine ⟨_, _, m, .inl (hrun _ _ g1), ?_⟩
                dsimp only
                rw [e0 (frost S.heap fr)]
                refine Step.froz hM.sim (Step.layNone hsim (hx0 cur) ?_)
                simp only [RepS, hcat]
                have hcl := g2.cells (g := w.heap.size) rfl
                have hlen : ((ax.den ρ).toSl ++ es).length = N + es.length := by rw [List.length_append, hNl]
                have hcp : N + es.length ≤ cap' := by
                  rcases g2.2 with ⟨h, _⟩ | ⟨g, cap, cur', hv, _, _, hle, _⟩
                  · cases h
                  · cases hv; exact hle
                have hkn : KeepsAv (avOf P m ρ B.fr (hsets S.heap (frost S.heap fr))) w (w.drew.alloc (.cells cur e)) (avOf P m ρ B.fr (hsets S.heap (frost S.heap fr))) := fun b off u hu ha =>
                  ⟨by rw [cell?_of_heap_eq ((hx0 cur).block b (World.block_lt_of_cell? w ⟨b, off, none⟩ hu) (fun f => f))]; exact hu, ha⟩
                have hE := repE_of (P := P) (av := avOf P m ρ B.fr (hsets S.heap (frost S.heap fr))) (b := w.heap.size) (k := 0) hlens (fun j z hz => by have := hcl j z hz; rwa [Addr.add_lit] at this) (fun off _ _ hav => by have := av_lt hsim hav; omega) (hrep.keeps hkn)
                have := Rep.sl (P := P) (elemTy_eq.1 he) (sl hb (by rw [List.length_append])) (cap := cap') (by rw [hlen]; exact hcp) hE
                rw [hlen] at this
                exact this
          · cases h
        · cases h
      · cases h
    · cases h
  · cases h
end
end Go.RX
namespace Go.RX

section
variable {P : Program} {B : Base} {ρ : List D} {S : SSt} {a : Act} {w w' : World} {m : Pl} {n : Nat} {o : Oper} {r : Out} {av av' : Av} {H H' : List SObj}


theorem symOp_ok (hM : Mod P B ρ S a w m) (hn : (∃ q ∈ r.sets, q.1 = n) → m n = none) (h : symOp P S n o = some r) (hc : ∀ c ∈ r.chks, c.den ρ = .bool true) : OpOk P B ρ S a m w o r := by
  cases hop : o.op
  case move x => exact op_move hM hn hop h
  case assign x => exact op_assign hM hn hop h
  case pick c x y => exact op_pick hM hop h
  case alloc t => exact op_alloc hM hn hop h
  case box t x => exact op_box hM hn hop h
  case build t ps => exact op_build hM hop h
  case buildSlice t l ps => exact op_buildSlice hM hn hop h
  case load t x => exact op_load hM hop h
  case store t x y => exact op_store hM hop h
  case nilCheck x => exact op_nilCheck hM hop h
  case binOp op xt x y yt => exact op_binOp hM hop h hc
  case unOp op xt x => exact op_unOp hM hop h
  case convert s d x => exact op_convert hM hop h
  case makeFunc fn first caps =>
    cases fn with
    | func f => exact op_makeFunc hM hop h
    | _ => unfold symOp at h; rw [hop] at h; simp at h
  case range t x => exact op_range hM hn hop h
  case makeMap t r' =>
    cases r' with
    | none => exact op_makeMap hM hn hop h
    | some _ => unfold symOp at h; rw [hop] at h; simp at h
  case makeSlice t l c => exact op_makeSlice hM hn hop h hc
  case slice t x lo hi mx => exact op_slice hM hop h hc
  case fieldAddr s x f => exact op_fieldAddr hM hop h
  case field s x f => exact op_field hM hop h
  case indexAddr t x i => exact op_indexAddr hM hop h hc
  case index t x i => exact op_index hM hop h hc
  case extract x i => exact op_extract hM hop h
  case call c =>
    have h' := h
    unfold symOp at h'
    rw [hop] at h'
    dsimp only at h'
    cases hcal : c.callee with
    | builtin b =>
      rw [hcal] at h'
      dsimp only at h'
      rcases hx : c.args.toList with _ | ⟨x, _ | ⟨y, _ | ⟨z, l⟩⟩⟩ <;> rcases ht : c.argTypes.toList with _ | ⟨t, _ | ⟨u, _ | ⟨q, l'⟩⟩⟩ <;> rw [hx, ht] at h' <;> cases b
      all_goals first
        | exact op_len hM hop hcal hx ht h
        | exact op_max hM hop hcal hx h
        | exact op_min hM hop hcal hx h
        | exact op_append hM hn hop hcal hx ht h hc
        | (simp at h'; done)
    | _ => rw [hcal] at h'; simp at h'
  all_goals (unfold symOp at h; rw [hop] at h; simp at h)
end
end Go.RX
namespace Go.RX

section
variable {P : Program} {B : Base} {ρ : List D} {w w' : World} {m m' : Pl} {H H1 H1' H' : List SObj}

theorem region_live {P : Program} {ρ : List D} {ob : SObj} {off : Nat} (h : region P ρ ob off) : ob ≠ .dead := fun e => by rw [e] at h; exact h
theorem region_writable {P : Program} {ρ : List D} {ob : SObj} {off : Nat} (h : region P ρ ob off) : writable ob := by cases ob <;> first | trivial | exact h.elim
theorem writable_live {ob : SObj} (h : writable ob) : ob ≠ .dead := fun e => by rw [e] at h; exact h

/-- What is looked at is there, maybe less of it is known, maybe it is only read. -/
def View (P : Program) (B : Base) (ρ : List D) (H : List SObj) (m : Pl) (w : World) (H1 : List SObj) : Prop :=
  ∀ o, hget H1 o = .dead ∨ (hget H o ≠ .dead ∧ ObjOk P w (avOf P m ρ B.fr H) m ρ (m o) (hget H1 o) ∧ (writable (hget H1 o) → writable (hget H o) ∧ ∀ off, region P ρ (hget H1 o) off ↔ region P ρ (hget H o) off))
theorem View.live (h : View P B ρ H m w H1) {o : Nat} (hl : hget H1 o ≠ .dead) : hget H o ≠ .dead := ((h o).resolve_left hl).1
theorem View.wr (h : View P B ρ H m w H1) {o : Nat} (hl : writable (hget H1 o)) : writable (hget H o) ∧ ∀ off, region P ρ (hget H1 o) off ↔ region P ρ (hget H o) off := ((h o).resolve_left (writable_live hl)).2.2 hl

/-- What a step within a part of the heap begins with. -/
def Base.within (P : Program) (B : Base) (ρ : List D) (H : List SObj) (m : Pl) (w : World) (H1 : List SObj) : Base where
  w0 := w
  ow := fun b => ∃ o p, writable (hget H1 o) ∧ m o = some p ∧ p.block = some b
  av0 := avOf P m ρ B.fr H
  fr := fun b off => B.fr b off ∨ ∃ o p, ¬ writable (hget H1 o) ∧ m o = some p ∧ p.block = some b ∧ region P ρ (hget H o) off

theorem av_within (hp : View P B ρ H m w H1) : avOf P m ρ (B.within P ρ H m w H1).fr H1 = avOf P m ρ B.fr H := by
  funext b off
  apply propext
  constructor
  · rintro ((hF | ⟨o, p, h1, h2, h3, h4⟩) | ⟨o, p, h2, h3, h4⟩)
    · exact .inl hF
    · exact .inr ⟨o, p, h2, h3, h4⟩
    · exact .inr ⟨o, p, h2, h3, ((hp.wr (region_writable h4)).2 off).1 h4⟩
  · rintro (hF | ⟨o, p, h2, h3, h4⟩)
    · exact .inl (.inl hF)
    · by_cases hw : writable (hget H1 o)
      · exact .inr ⟨o, p, h2, h3, ((hp.wr hw).2 off).2 h4⟩
      · exact .inl (.inr ⟨o, p, hw, h2, h3, h4⟩)

/-- The rest is set aside. -/
theorem Sim.within (h : Sim P B ρ H m w) (hp : View P B ρ H m w H1) : Sim P (B.within P ρ H m w H1) ρ H1 m w := by
  have hav := av_within hp
  refine ⟨fun o => ?_, fun o o' p p' b hl hl' => h.inj o o' p p' b (hp.live hl) (hp.live hl'), fun o p b hw h1 h2 => .inl ⟨o, p, hw, h1, h2⟩, Ext.refl _ _, ?_, fun o p b off hl h1 h2 => ?_, fun b off hf => ?_⟩
  · rw [hav]
    rcases hp o with e | ⟨_, e, _⟩
    · rw [e]; trivial
    · exact e
  · rw [hav]; exact KeepsAv.refl _ _
  · rintro (hF | ⟨o', p', g1, g2, g3, g4⟩)
    · exact h.apart o p b off (hp.wr hl).1 h1 h2 hF
    · have := h.inj o o' p p' b (writable_live (hp.wr hl).1) (region_live g4) h1 g2 h2 g3
      subst this
      exact g1 hl
  · rcases hf with hF | ⟨o', p', g1, g2, g3, g4⟩
    · exact av_lt h (.inl hF)
    · exact av_lt h (.inr ⟨o', p', g2, g3, g4⟩)

/-- The rest is put back. -/
theorem Sim.frame (h : Sim P B ρ H m w) (hp : View P B ρ H m w H1) (h' : Sim P (B.within P ρ H m w H1) ρ H1' m' w') (hm : Pl.le m m') (T : Nat → Prop) (hTw : ∀ o, writable (hget H1 o) → T o)
    (hT : ∀ o, T o → hget H' o = hget H1' o ∧ (hget H o ≠ .dead → writable (hget H1 o)) ∧ (hget H1' o = .dead ∨ writable (hget H1' o))) (hN : ∀ o, ¬ T o → hget H' o = hget H o ∧ ¬ writable (hget H1' o)) :
    Sim P B ρ H' m' w' ∧ KeepsAv (avOf P m ρ B.fr H) w w' (avOf P m' ρ B.fr H') ∧ avOf P m' ρ (B.within P ρ H m w H1).fr H1' = avOf P m' ρ B.fr H' := by
  have place : ∀ o, hget H o ≠ .dead → ∀ p, m' o = some p → m o = some p := by
    intro o hl p hp'
    obtain ⟨q, hq⟩ := ObjOk.some hl (h.ok o)
    have := hm o q hq
    rw [hp'] at this; cases this; exact hq
  have hav : avOf P m' ρ (B.within P ρ H m w H1).fr H1' = avOf P m' ρ B.fr H' := by
    funext b off
    apply propext
    constructor
    · rintro ((hF | ⟨o, p, h1, h2, h3, h4⟩) | ⟨o, p, h2, h3, h4⟩)
      · exact .inl hF
      · have ht : ¬ T o := fun ht => h1 ((hT o ht).2.1 (region_live h4))
        exact .inr ⟨o, p, hm o p h2, h3, by rw [(hN o ht).1]; exact h4⟩
      · by_cases ht : T o
        · exact .inr ⟨o, p, h2, h3, by rw [(hT o ht).1]; exact h4⟩
        · exact ((hN o ht).2 (region_writable h4)).elim
    · rintro (hF | ⟨o, p, h2, h3, h4⟩)
      · exact .inl (.inl hF)
      · by_cases ht : T o
        · exact .inr ⟨o, p, h2, h3, by rw [← (hT o ht).1]; exact h4⟩
        · rw [(hN o ht).1] at h4
          exact .inl (.inr ⟨o, p, fun hw => ht (hTw o hw), place o (region_live h4) p h2, h3, h4⟩)
  have hk : KeepsAv (avOf P m ρ B.fr H) w w' (avOf P m' ρ B.fr H') := by rw [← hav]; exact h'.keep
  -- the blocks of the rest are untouched
  have apart : ∀ o p b, hget H o ≠ .dead → ¬ writable (hget H1 o) → m o = some p → p.block = some b → b < w.heap.size ∧ ∀ o' p', writable (hget H1 o') → m o' = some p' → p'.block ≠ some b := by
    intro o p b hl hd hmo hb
    refine ⟨ObjOk.lt hl (hmo ▸ h.ok o) hb, fun o' p' hl' hm' hb' => ?_⟩
    have := h.inj o o' p p' b hl (writable_live (hp.wr hl').1) hmo hm' hb hb'
    subst this
    exact hd hl'
  have tw : ∀ o, T o → hget H' o ≠ .dead → writable (hget H1' o) := fun o ht hl => ((hT o ht).2.2).resolve_left (by rw [← (hT o ht).1]; exact hl)
  have mixed : ∀ o o' p p' b, T o → ¬ T o' → hget H' o ≠ .dead → hget H' o' ≠ .dead → m' o = some p → m' o' = some p' → p.block = some b → p'.block = some b → False := by
    intro o o' p p' b ht ht' hl hl' hmo hmo' hb hb'
    rw [(hN o' ht').1] at hl'
    obtain ⟨hlt, hno⟩ := apart o' p' b hl' (fun hw => ht' (hTw o' hw)) (place o' hl' p' hmo') hb'
    rcases h'.base o p b (tw o ht hl) hmo hb with ⟨o0, p0, g1, g2, g3⟩ | hge
    · exact hno o0 p0 g1 g2 g3
    · have hge : w.heap.size ≤ b := hge
      omega
  refine ⟨⟨fun o => ?_, fun o o' p p' b hl hl' hmo hmo' hb hb' => ?_, fun o p b hw hmo hb => ?_, ?_, h.keep.trans hk, fun o p b off hl hmo hb hF => ?_, h.old⟩, hk, hav⟩
  · by_cases ht : T o
    · rw [(hT o ht).1, ← hav]; exact h'.ok o
    · rw [(hN o ht).1]
      by_cases hl : hget H o = .dead
      · rw [hl]; trivial
      · obtain ⟨q, hq⟩ := ObjOk.some hl (h.ok o)
        have hok := h.ok o
        rw [hm o q hq]
        rw [hq] at hok
        refine ObjOk.keeps hk hm (fun q' b hq' hb => ?_) hok
        cases hq'
        obtain ⟨hlt, hno⟩ := apart o q b hl (fun hw => ht (hTw o hw)) hq hb
        exact h'.ext.block b hlt (fun ⟨o', p', g1, g2, g3⟩ => hno o' p' g1 g2 g3)
  · by_cases ht : T o <;> by_cases ht' : T o'
    · exact h'.inj o o' p p' b (by rw [← (hT o ht).1]; exact hl) (by rw [← (hT o' ht').1]; exact hl') hmo hmo' hb hb'
    · exact (mixed o o' p p' b ht ht' hl hl' hmo hmo' hb hb').elim
    · exact (mixed o' o p' p b ht' ht hl' hl hmo' hmo hb' hb).elim
    · rw [(hN o ht).1] at hl; rw [(hN o' ht').1] at hl'
      exact h.inj o o' p p' b hl hl' (place o hl p hmo) (place o' hl' p' hmo') hb hb'
  · by_cases ht : T o
    · rcases h'.base o p b (by rw [← (hT o ht).1]; exact hw) hmo hb with ⟨o0, p0, g1, g2, g3⟩ | hge
      · exact h.base o0 p0 b (hp.wr g1).1 g2 g3
      · exact .inr (Nat.le_trans h.ext.size hge)
    · rw [(hN o ht).1] at hw
      exact h.base o p b hw (place o (writable_live hw) p hmo) hb
  · refine h.ext.trans h'.ext ?_
    rintro x hx ⟨o0, p0, g1, g2, g3⟩
    rcases h.base o0 p0 x (hp.wr g1).1 g2 g3 with h | h
    · exact h
    · omega
  · by_cases ht : T o
    · exact h'.apart o p b off (by rw [← (hT o ht).1]; exact hl) hmo hb (.inl hF)
    · rw [(hN o ht).1] at hl
      exact h.apart o p b off hl (place o (writable_live hl) p hmo) hb hF
end
end Go.RX
namespace Go.RX

/-! Other names for variables and objects. -/
theorem X.map_den {f : Nat → X} {ρ ρ' : List D} (h : ∀ i, (f i).den ρ' = ρ.getD i default) : ∀ a : X, (a.map f).den ρ' = a.den ρ
  | .var i => by simp [X.map, X.den, h]
  | .hole | .bool _ | .int _ | .str _ | .nil => rfl
  | .cons a b | .bin _ _ a b | .cmp _ a b | .beq a b | .and a b | .or a b | .scmp _ a b | .scat a b | .sidx a b | .idx a b | .app a b | .rep a b | .fits a b _ | .sfits a b | .ruc a b | .ruw a b => by
    simp only [X.map, X.den, X.map_den h a, X.map_den h b]
  | .fld a _ | .sub a _ _ | .wrap _ a | .not a | .slen a | .len a | .lit a | .s2b a | .b2s a => by
    simp only [X.map, X.den, X.map_den h a]
  | .ite a b c | .ssub a b c | .tk a b c | .mget a b c | .mput a b c | .upd a b _ c => by
    simp only [X.map, X.den, X.map_den h a, X.map_den h b, X.map_den h c]

/-- what is closed says the same before longer lists -/
theorem X.closed_den {ρ ρ' : List D} {n : Nat} (h : ∀ i, i < n → ρ'.getD i default = ρ.getD i default) : ∀ (a : X), a.closed n = true → a.den ρ' = a.den ρ
  | .var i, hc => by simp only [X.closed, decide_eq_true_eq] at hc; simp only [X.den]; exact h i hc
  | .hole, hc => rfl
  | .bool _, _ | .int _, _ | .str _, _ | .nil, _ => rfl
  | .cons a b, hc | .bin _ _ a b, hc | .cmp _ a b, hc | .beq a b, hc | .and a b, hc | .or a b, hc | .scmp _ a b, hc | .scat a b, hc | .sidx a b, hc | .idx a b, hc | .app a b, hc | .rep a b, hc | .fits a b _, hc | .sfits a b, hc | .ruc a b, hc | .ruw a b, hc => by
    simp only [X.closed, Bool.and_eq_true] at hc
    simp only [X.den, X.closed_den h a hc.1, X.closed_den h b hc.2]
  | .fld a _, hc | .sub a _ _, hc | .wrap _ a, hc | .not a, hc | .slen a, hc | .len a, hc | .lit a, hc | .s2b a, hc | .b2s a, hc => by
    simp only [X.closed] at hc
    simp only [X.den, X.closed_den h a hc]
  | .ite a b c, hc | .ssub a b c, hc | .tk a b c, hc | .mget a b c, hc | .mput a b c, hc | .upd a b _ c, hc => by
    simp only [X.closed, Bool.and_eq_true] at hc
    simp only [X.den, X.closed_den h a hc.1.1, X.closed_den h b hc.1.2, X.closed_den h c hc.2]

section
variable {P : Program} {w w' : World} {m m' : Pl} {av : Av} {f : Nat → X} {g : Nat → Nat} {ρ ρ' : List D}

mutual
theorem RepS.map (h : ∀ i, (f i).den ρ' = ρ.getD i default) : ∀ (s : SV) {v : Value}, RepS P w av m ρ' (s.map f g) v ↔ RepS P w av (fun i => m (g i)) ρ s v
  | .any, _ | .undef, _ | .nil, _ | .nilp, _ | .nils, _ | .nilf, _ | .nili, _ | .ifv, _ => by simp [SV.map, RepS]
  | .cons _ _, _ => by simp [SV.map, RepS]
  | .x a t, _ => by simp only [SV.map, RepS, X.map_den h]
  | .agg cs, _ => by simp only [SV.map, RepS, RepSL.map h cs]
  | .tup cs, _ => by simp only [SV.map, RepS, RepSL.map h cs]
  | .own r, _ => by simp only [SV.map, RepS]
  | .ptr o off, _ => by simp only [SV.map, RepS]
  | .full a t, _ => by simp only [SV.map, RepS, X.map_den h]
  | .iptr e a off, _ => by simp only [SV.map, RepS, X.map_den h]
  | .rptr e r i off, _ => by simp only [SV.map, RepS, X.map_den h]
  | .clo k a b, _ => by simp only [SV.map, RepS, RepSL.map h a, RepSL.map h b]
  | .lits es, _ => by
    have e : (es.map f g).toL.length = es.toL.length := lenL es
    simp only [SV.map, RepS, RepSM.map h es, e]
  | .lptr a, _ => by simp only [SV.map, RepS, RepS.map h a]
  | .mp o, _ => by simp only [SV.map, RepS]
theorem RepSL.map (h : ∀ i, (f i).den ρ' = ρ.getD i default) : ∀ (s : SV) {vs : List Value}, RepSL P w av m ρ' (s.map f g) vs ↔ RepSL P w av (fun i => m (g i)) ρ s vs
  | .nil, _ => by simp [SV.map, RepSL]
  | .cons a b, _ => by simp only [SV.map, RepSL, RepS.map h a, RepSL.map h b]
  | .any, _ | .undef, _ | .x _ _, _ | .agg _, _ | .tup _, _ | .own _, _ | .ptr _ _, _ | .nilp, _ | .nils, _ | .full _ _, _ | .iptr _ _ _, _ | .rptr _ _ _ _, _
  | .clo _ _ _, _ | .nilf, _ | .nili, _ | .ifv, _ | .lits _, _ | .lptr _, _ | .mp _, _ => by simp [SV.map, RepSL]
theorem RepSM.map (h : ∀ i, (f i).den ρ' = ρ.getD i default) : ∀ (s : SV) {b off : Nat}, RepSM P w av m ρ' (s.map f g) b off ↔ RepSM P w av (fun i => m (g i)) ρ s b off
  | .nil, _, _ => by simp [SV.map, RepSM]
  | .cons a b, _, _ => by simp only [SV.map, RepSM, RepS.map h a, RepSM.map h b]
  | .any, _, _ | .undef, _, _ | .x _ _, _, _ | .agg _, _, _ | .tup _, _, _ | .own _, _, _ | .ptr _ _, _, _ | .nilp, _, _ | .nils, _, _ | .full _ _, _, _ | .iptr _ _ _, _, _ | .rptr _ _ _ _, _, _
  | .clo _ _ _, _, _ | .nilf, _, _ | .nili, _, _ | .ifv, _, _ | .lits _, _, _ | .lptr _, _, _ | .mp _, _, _ => by simp [SV.map, RepSM]
theorem lenL : ∀ (s : SV), (s.map f g).toL.length = s.toL.length
  | .cons a b => by simp [SV.map, SV.toL, lenL b]
  | .nil | .any | .undef | .x _ _ | .agg _ | .tup _ | .own _ | .ptr _ _ | .nilp | .nils | .full _ _ | .iptr _ _ _ | .rptr _ _ _ _
  | .clo _ _ _ | .nilf | .nili | .ifv | .lits _ | .lptr _ | .mp _ => by simp [SV.map, SV.toL]
end

theorem ObjOk.map (h : ∀ i, (f i).den ρ' = ρ.getD i default) {p : Option Place} (ob : SObj) : ObjOk P w av m ρ' p (ob.mapv f g) ↔ ObjOk P w av (fun i => m (g i)) ρ p ob := by
  cases ob <;> simp only [SObj.mapv, ObjOk, X.map_den h, RepSL.map h]
theorem region_map (h : ∀ i, (f i).den ρ' = ρ.getD i default) (ob : SObj) (off : Nat) : region P ρ' (ob.mapv f g) off ↔ region P ρ ob off := by
  cases ob with
  | row e c wr => cases wr <;> simp only [SObj.mapv, region, X.map_den h]
  | _ => simp only [SObj.mapv, region]
theorem mapv_dead (ob : SObj) : ob.mapv f g = .dead ↔ ob = .dead := by cases ob <;> simp [SObj.mapv]
theorem writable_map (ob : SObj) : writable (ob.mapv f g) ↔ writable ob := by cases ob <;> simp [SObj.mapv, writable]
end
end Go.RX
namespace Go.RX

section
variable {P : Program} {B : Base} {ρ ρp ρr : List D} {w w' : World} {m m' mp m1' : Pl} {H Hp H1' H' : List SObj} {g g' : Nat → Nat} {f' : Nat → X}

/-- What another state looks at, under its own numbers: maybe less of it is known, maybe it is only read. -/
structure Looks (P : Program) (B : Base) (ρ : List D) (H : List SObj) (m : Pl) (w : World) (ρp : List D) (Hp : List SObj) (mp : Pl) (g : Nat → Nat) : Prop where
  live : ∀ r, hget Hp r ≠ .dead → hget H (g r) ≠ .dead ∧ mp r = m (g r)
  ok : ∀ r, hget Hp r ≠ .dead → ObjOk P w (avOf P m ρ B.fr H) mp ρp (mp r) (hget Hp r)
  wr : ∀ r, writable (hget Hp r) → writable (hget H (g r)) ∧ ∀ off, region P ρp (hget Hp r) off ↔ region P ρ (hget H (g r)) off
  inj : ∀ r r', hget Hp r ≠ .dead → hget Hp r' ≠ .dead → g r = g r' → r = r'

/-- What a step on that begins with. -/
def Base.given (P : Program) (B : Base) (ρ : List D) (H : List SObj) (m : Pl) (w : World) (Hp : List SObj) (mp : Pl) (g : Nat → Nat) : Base where
  w0 := w
  ow := fun b => ∃ r p, writable (hget Hp r) ∧ mp r = some p ∧ p.block = some b
  av0 := avOf P m ρ B.fr H
  fr := fun b off => B.fr b off ∨ ∃ o p, (∀ r, writable (hget Hp r) → g r ≠ o) ∧ m o = some p ∧ p.block = some b ∧ region P ρ (hget H o) off

theorem av_given (hp : Looks P B ρ H m w ρp Hp mp g) : avOf P mp ρp (B.given P ρ H m w Hp mp g).fr Hp = avOf P m ρ B.fr H := by
  funext b off
  apply propext
  constructor
  · rintro ((hF | ⟨o, p, h1, h2, h3, h4⟩) | ⟨r, p, h2, h3, h4⟩)
    · exact .inl hF
    · exact .inr ⟨o, p, h2, h3, h4⟩
    · have hl := region_live h4
      rw [(hp.live r hl).2] at h2
      exact .inr ⟨g r, p, h2, h3, ((hp.wr r (region_writable h4)).2 off).1 h4⟩
  · rintro (hF | ⟨o, p, h2, h3, h4⟩)
    · exact .inl (.inl hF)
    · by_cases hw : ∃ r, writable (hget Hp r) ∧ g r = o
      · obtain ⟨r, hw, rfl⟩ := hw
        exact .inr ⟨r, p, by rw [(hp.live r (writable_live hw)).2]; exact h2, h3, ((hp.wr r hw).2 off).2 h4⟩
      · exact .inl (.inr ⟨o, p, fun r hr e => hw ⟨r, hr, e⟩, h2, h3, h4⟩)

/-- The rest is set aside. -/
theorem Sim.given (h : Sim P B ρ H m w) (hp : Looks P B ρ H m w ρp Hp mp g) : Sim P (B.given P ρ H m w Hp mp g) ρp Hp mp w := by
  have hav := av_given hp
  refine ⟨fun o => ?_, fun o o' p p' b hl hl' hm hm' hb hb' => ?_, fun o p b hw h1 h2 => .inl ⟨o, p, hw, h1, h2⟩, Ext.refl _ _, ?_, fun o p b off hl h1 h2 => ?_, fun b off hf => ?_⟩
  · rw [hav]
    by_cases hl : hget Hp o = .dead
    · rw [hl]; trivial
    · exact hp.ok o hl
  · rw [(hp.live o hl).2] at hm; rw [(hp.live o' hl').2] at hm'
    exact hp.inj o o' hl hl' (h.inj _ _ p p' b (hp.live o hl).1 (hp.live o' hl').1 hm hm' hb hb')
  · rw [hav]; exact KeepsAv.refl _ _
  · have hl' := writable_live hl
    rw [(hp.live o hl').2] at h1
    rintro (hF | ⟨o', p', g1, g2, g3, g4⟩)
    · exact h.apart (g o) p b off (hp.wr o hl).1 h1 h2 hF
    · exact g1 o hl (h.inj _ _ p p' b (hp.live o hl').1 (region_live g4) h1 g2 h2 g3)
  · rcases hf with hF | ⟨o', p', g1, g2, g3, g4⟩
    · exact av_lt h (.inl hF)
    · exact av_lt h (.inr ⟨o', p', g2, g3, g4⟩)

/-- How what came out lies in the whole heap. -/
structure Laid (P : Program) (ρ : List D) (H : List SObj) (Hp : List SObj) (g : Nat → Nat) (m m' : Pl) (ρr : List D) (H1' : List SObj) (m1' : Pl) (H' : List SObj) (f' : Nat → X) (g' : Nat → Nat) (T : Nat → Prop) : Prop where
  den : ∀ i, (f' i).den ρ = ρr.getD i default
  le : Pl.le m m'
  new : ∀ i p, m1' i = some p → m' (g' i) = some p
  tw : ∀ r, writable (hget Hp r) → T (g r)
  tl : ∀ o, T o → hget H o ≠ .dead → ∃ r, g r = o ∧ writable (hget Hp r)
  t : ∀ o, T o → hget H' o ≠ .dead → ∃ i, g' i = o ∧ hget H' o = (hget H1' i).mapv f' g' ∧ writable (hget H1' i)
  s : ∀ i, writable (hget H1' i) → T (g' i) ∧ hget H' (g' i) = (hget H1' i).mapv f' g'
  n : ∀ o, ¬ T o → hget H' o = hget H o

theorem Sim.laid (h : Sim P B ρ H m w) (hp : Looks P B ρ H m w ρp Hp mp g) (h' : Sim P (B.given P ρ H m w Hp mp g) ρr H1' m1' w') {T : Nat → Prop} (hl : Laid P ρ H Hp g m m' ρr H1' m1' H' f' g' T) :
    Sim P B ρ H' m' w' ∧ KeepsAv (avOf P m ρ B.fr H) w w' (avOf P m' ρ B.fr H') ∧ avOf P m1' ρr (B.given P ρ H m w Hp mp g).fr H1' = avOf P m' ρ B.fr H' := by
  have place : ∀ o, hget H o ≠ .dead → ∀ p, m' o = some p → m o = some p := by
    intro o hl' p hp'
    obtain ⟨q, hq⟩ := ObjOk.some hl' (h.ok o)
    have := hl.le o q hq
    rw [hp'] at this; cases this; exact hq
  -- what came out has a place
  have got : ∀ i, writable (hget H1' i) → ∀ p, m' (g' i) = some p → m1' i = some p := by
    intro i hw p hp'
    obtain ⟨q, hq⟩ := ObjOk.some (writable_live hw) (h'.ok i)
    have := hl.new i q hq
    rw [hp'] at this; cases this; exact hq
  have hav : avOf P m1' ρr (B.given P ρ H m w Hp mp g).fr H1' = avOf P m' ρ B.fr H' := by
    funext b off
    apply propext
    constructor
    · rintro ((hF | ⟨o, p, h1, h2, h3, h4⟩) | ⟨i, p, h2, h3, h4⟩)
      · exact .inl hF
      · have ht : ¬ T o := fun ht => by
          obtain ⟨r, e, hw⟩ := hl.tl o ht (region_live h4)
          exact h1 r hw e
        exact .inr ⟨o, p, hl.le o p h2, h3, by rw [hl.n o ht]; exact h4⟩
      · have hw := region_writable h4
        exact .inr ⟨g' i, p, hl.new i p h2, h3, by rw [(hl.s i hw).2]; exact (region_map hl.den _ off).2 h4⟩
    · rintro (hF | ⟨o, p, h2, h3, h4⟩)
      · exact .inl (.inl hF)
      · by_cases ht : T o
        · obtain ⟨i, rfl, e, hw⟩ := hl.t o ht (region_live h4)
          rw [e] at h4
          exact .inr ⟨i, p, got i hw p h2, h3, (region_map hl.den _ off).1 h4⟩
        · rw [hl.n o ht] at h4
          exact .inl (.inr ⟨o, p, fun r hr e => ht (e ▸ hl.tw r hr), place o (region_live h4) p h2, h3, h4⟩)
  have hk : KeepsAv (avOf P m ρ B.fr H) w w' (avOf P m' ρ B.fr H') := by rw [← hav]; exact h'.keep
  have apart : ∀ o p b, hget H o ≠ .dead → ¬ T o → m o = some p → p.block = some b → b < w.heap.size ∧ ∀ r p', writable (hget Hp r) → mp r = some p' → p'.block ≠ some b := by
    intro o p b hlo ht hmo hb
    refine ⟨ObjOk.lt hlo (hmo ▸ h.ok o) hb, fun r p' hw hm' hb' => ?_⟩
    have hlr := hp.live r (writable_live hw)
    rw [hlr.2] at hm'
    have := h.inj o (g r) p p' b hlo hlr.1 hmo hm' hb hb'
    exact ht (this ▸ hl.tw r hw)
  have mixed : ∀ o o' p p' b, T o → ¬ T o' → hget H' o ≠ .dead → hget H' o' ≠ .dead → m' o = some p → m' o' = some p' → p.block = some b → p'.block = some b → False := by
    intro o o' p p' b ht ht' hlo hlo' hmo hmo' hb hb'
    rw [hl.n o' ht'] at hlo'
    obtain ⟨hlt, hno⟩ := apart o' p' b hlo' ht' (place o' hlo' p' hmo') hb'
    obtain ⟨i, rfl, e, hw⟩ := hl.t o ht hlo
    rcases h'.base i p b hw (got i hw p hmo) hb with ⟨o0, p0, g1, g2, g3⟩ | hge
    · exact hno o0 p0 g1 g2 g3
    · have hge : w.heap.size ≤ b := hge
      omega
  refine ⟨⟨fun o => ?_, fun o o' p p' b hlo hlo' hmo hmo' hb hb' => ?_, fun o p b hw hmo hb => ?_, ?_, h.keep.trans hk, fun o p b off hlo hmo hb hF => ?_, h.old⟩, hk, hav⟩
  · by_cases hd : hget H' o = .dead
    · rw [hd]; trivial
    · by_cases ht : T o
      · obtain ⟨i, rfl, e, hw⟩ := hl.t o ht hd
        obtain ⟨q, hq⟩ := ObjOk.some (writable_live hw) (h'.ok i)
        have hok := h'.ok i
        rw [e, hl.new i q hq, ObjOk.map hl.den, ← hav]
        rw [hq] at hok
        have e2 : ObjOk P w' (avOf P m1' ρr (B.given P ρ H m w Hp mp g).fr H1') (fun i => m' (g' i)) ρr (some q) (hget H1' i) := ObjOk.keeps (KeepsAv.refl _ _) (fun j p hj => hl.new j p hj) (fun _ _ _ _ => rfl) hok
        exact e2
      · rw [hl.n o ht] at hd ⊢
        obtain ⟨q, hq⟩ := ObjOk.some hd (h.ok o)
        have hok := h.ok o
        rw [hl.le o q hq]
        rw [hq] at hok
        refine ObjOk.keeps hk hl.le (fun q' b hq' hb => ?_) hok
        cases hq'
        obtain ⟨hlt, hno⟩ := apart o q b hd ht hq hb
        exact h'.ext.block b hlt (fun ⟨o', p', g1, g2, g3⟩ => hno o' p' g1 g2 g3)
  · by_cases ht : T o <;> by_cases ht' : T o'
    · obtain ⟨i, rfl, e, hw⟩ := hl.t o ht hlo
      obtain ⟨i', rfl, e', hw'⟩ := hl.t o' ht' hlo'
      rw [h'.inj i i' p p' b (writable_live hw) (writable_live hw') (got i hw p hmo) (got i' hw' p' hmo') hb hb']
    · exact (mixed o o' p p' b ht ht' hlo hlo' hmo hmo' hb hb').elim
    · exact (mixed o' o p' p b ht' ht hlo' hlo hmo' hmo hb' hb).elim
    · rw [hl.n o ht] at hlo; rw [hl.n o' ht'] at hlo'
      exact h.inj o o' p p' b hlo hlo' (place o hlo p hmo) (place o' hlo' p' hmo') hb hb'
  · by_cases ht : T o
    · obtain ⟨i, rfl, e, hwi⟩ := hl.t o ht (writable_live hw)
      rcases h'.base i p b hwi (got i hwi p hmo) hb with ⟨o0, p0, g1, g2, g3⟩ | hge
      · rw [(hp.live o0 (writable_live g1)).2] at g2
        exact h.base (g o0) p0 b (hp.wr o0 g1).1 g2 g3
      · exact .inr (Nat.le_trans h.ext.size hge)
    · rw [hl.n o ht] at hw
      exact h.base o p b hw (place o (writable_live hw) p hmo) hb
  · refine h.ext.trans h'.ext ?_
    rintro x hx ⟨o0, p0, g1, g2, g3⟩
    rw [(hp.live o0 (writable_live g1)).2] at g2
    rcases h.base (g o0) p0 x (hp.wr o0 g1).1 g2 g3 with h | h
    · exact h
    · omega
  · by_cases ht : T o
    · obtain ⟨i, rfl, e, hwi⟩ := hl.t o ht (writable_live hlo)
      exact h'.apart i p b off hwi (got i hwi p hmo) hb (.inl hF)
    · rw [hl.n o ht] at hlo
      exact h.apart o p b off hlo (place o (writable_live hlo) p hmo) hb hF
end
end Go.RX
namespace Go.RX

/-- The one match goes on to the other. -/
structure MLe (M M' : MSt) : Prop where
  len : M.sub.length = M'.sub.length
  sub : ∀ (i : Nat) (a : X), M.sub[i]? = some (some a) → M'.sub[i]? = some (some a)
  ren : ∃ l, M'.ren = M.ren ++ l
  frz : ∀ r ∈ M.frz, r ∈ M'.frz
  news : M.news ≤ M'.news
theorem MLe.refl (M : MSt) : MLe M M := ⟨rfl, fun _ _ h => h, ⟨[], by simp⟩, fun _ h => h, Nat.le_refl _⟩
theorem MLe.trans {M M' M'' : MSt} (h : MLe M M') (k : MLe M' M'') : MLe M M'' :=
  ⟨h.len.trans k.len, fun i a x => k.sub i a (h.sub i a x), by
    obtain ⟨l, e⟩ := h.ren; obtain ⟨l', e'⟩ := k.ren; exact ⟨l ++ l', by rw [e', e, List.append_assoc]⟩, fun r x => k.frz r (h.frz r x), Nat.le_trans h.news k.news⟩

section
variable {P : Program}

theorem matchX_le {n0 : Nat} {p a : X} {M M' : MSt} (h : matchX n0 p a M = some M') : MLe M M' := by
  unfold matchX at h
  split at h
  · split at h
    · split at h
      · cases h; exact MLe.refl _
      · cases h
    · split at h
      · rename_i i hi hn
        split at h
        · rename_i hlt
          cases h
          refine ⟨by simp, fun j b hj => ?_, ⟨[], by simp⟩, fun _ h => h, Nat.le_refl _⟩
          simp only [List.getElem?_set]
          split
          · rename_i e
            subst e
            rw [List.getD_eq_getElem?_getD, hj] at hn
            simp at hn
          · exact hj
        · cases h
      · cases h
  · split at h
    · cases h; exact MLe.refl _
    · cases h
theorem addRen_le {M M' : MSt} {r s : Nat} (h : addRen M r s = some M') : MLe M M' := by
  unfold addRen at h
  split at h
  · split at h
    · cases h; exact MLe.refl _
    · cases h
  · split at h
    · cases h
    · cases h; exact ⟨rfl, fun _ _ h => h, ⟨_, rfl⟩, fun _ h => h, Nat.le_refl _⟩
theorem matchData_le {H : List SObj} {n0 : Nat} {p : X} {t : TypeId} {a : SV} {M M' : MSt} (h : matchData P H n0 p t a M = some M') : MLe M M' := by
  unfold matchData at h
  split at h
  · rename_i x f _
    have := matchX_le h
    have h0 : MLe M { M with frz := M.frz ++ f } := ⟨rfl, fun _ _ h => h, ⟨[], by simp⟩, fun r hr => List.mem_append_left _ hr, Nat.le_refl _⟩
    exact h0.trans this
  · cases h
theorem matchSV_le {H : List SObj} {n0 n : Nat} : ∀ (p a : SV) {M M' : MSt}, matchSV P H n0 n p a M = some M' → MLe M M' := by
  intro p
  induction p with
  | any => intro a M M' h; cases a <;> simp [matchSV] at h <;> (subst h; exact MLe.refl _)
  | x y t => intro a M M' h; cases a <;> (simp only [matchSV] at h; exact matchData_le h)
  | cons p q ihp ihq =>
    intro a M M' h
    cases a <;> simp [matchSV] at h
    split at h
    · rename_i M1 h1
      exact (ihp _ h1).trans (ihq _ h)
    · cases h
  | agg ps ih =>
    intro a M M' h
    cases a <;> simp [matchSV] at h
    case agg cs => exact ih _ h
    case x a t =>
      split at h
      · split at h
        · exact ih _ h
        · cases h
      · cases h
  | tup ps ih =>
    intro a M M' h
    cases a <;> simp [matchSV] at h
    case tup cs => exact ih _ h
  | own r =>
    intro a M M' h
    cases a <;> simp [matchSV] at h
    case own s => exact addRen_le h
    case nils =>
      obtain ⟨M1, h1, rfl⟩ := h
      exact (addRen_le h1).trans ⟨rfl, fun _ _ h => h, ⟨[], by simp⟩, fun _ h => h, Nat.le_succ _⟩
  | ptr o off => intro a M M' h; cases a <;> simp [matchSV] at h; exact addRen_le h.2
  | mp o => intro a M M' h; cases a <;> simp [matchSV] at h; exact addRen_le h
  | full y t => intro a M M' h; cases a <;> simp [matchSV] at h; exact matchX_le h.2
  | iptr e y off => intro a M M' h; cases a <;> simp [matchSV] at h; exact matchX_le h.2
  | lits ps ih => intro a M M' h; cases a <;> simp [matchSV] at h; exact ih _ h
  | clo f ps qs ihp ihq =>
    intro a M M' h
    cases a <;> simp [matchSV] at h
    obtain ⟨_, h⟩ := h
    split at h
    · rename_i M1 h1
      exact (ihp _ h1).trans (ihq _ h)
    · cases h
  | rptr e r i off => intro a M M' h; cases a <;> simp [matchSV] at h
  | lptr v => intro a M M' h; cases a <;> simp [matchSV] at h
  | _ => intro a M M' h; cases a <;> simp [matchSV] at h <;> (subst h; exact MLe.refl _)
end
end Go.RX
namespace Go.RX

theorem allSome_get : ∀ {l : List (Option X)} {xs : List X}, allSome l = some xs → ∀ (i : Nat) (a : X), l[i]? = some (some a) → xs[i]? = some a
  | [], xs, h, i, a, hi => by simp at hi
  | some b :: l, xs, h, i, a, hi => by
    simp only [allSome] at h
    split at h
    · rename_i r hr
      cases h
      cases i with
      | zero => simp at hi; subst hi; rfl
      | succ i => simpa using allSome_get hr i a (by simpa using hi)
    · cases h
  | none :: l, xs, h, i, a, hi => by simp [allSome] at h
theorem allSome_len : ∀ {l : List (Option X)} {xs : List X}, allSome l = some xs → xs.length = l.length
  | [], xs, h => by simp [allSome] at h; subst h; rfl
  | some b :: l, xs, h => by
    simp only [allSome] at h
    split at h
    · rename_i r hr; cases h; simp [allSome_len hr]
    · cases h
  | none :: l, xs, h => by simp [allSome] at h

/-- What a match comes to in the end. -/
structure Fit (P : Program) (B : Base) (ρ : List D) (H : List SObj) (m : Pl) (w : World) (n0 n : Nat) (Mf : MSt) (xs : List X) (ρp : List D) (H' : List SObj) (m2 mp : Pl) : Prop where
  sim : Sim P B ρ H m w
  hxs : allSome Mf.sub = some xs
  hn0 : n0 ≤ ρ.length
  henv : ρp = ρ.take n0 ++ xs.map (·.den ρ)
  frz : FrozIn H H' Mf.frz
  le : Pl.le m m2
  new : ∀ k, k < Mf.news → m2 (n + k) = some ⟨none, .slice none 0 0⟩
  mp : ∀ r s, Mf.ren.find? (fun q => q.1 == r) = some (r, s) → mp r = m2 s

section
variable {P : Program} {B : Base} {ρ ρp : List D} {w : World} {m m2 mp : Pl} {H H' : List SObj} {n0 n : Nat} {Mf : MSt} {xs : List X}

theorem Fit.var_old (h : Fit P B ρ H m w n0 n Mf xs ρp H' m2 mp) {i : Nat} (hi : i < n0) : ρp.getD i default = ρ.getD i default := by
  have := h.hn0
  rw [h.henv, List.getD_eq_getElem?_getD, List.getD_eq_getElem?_getD, List.getElem?_append_left (by rw [List.length_take]; omega), List.getElem?_take, if_pos hi]
theorem Fit.matchX (h : Fit P B ρ H m w n0 n Mf xs ρp H' m2 mp) {p a : X} {M M' : MSt} (hx : matchX n0 p a M = some M') (hle : MLe M' Mf) : p.den ρp = a.den ρ := by
  unfold RX.matchX at hx
  split at hx
  · rename_i i
    split at hx
    · rename_i hi
      split at hx
      · rename_i e
        simp only [beq_iff_eq] at e
        subst e
        simp only [X.den]
        exact h.var_old hi
      · cases hx
    · rename_i hi
      split at hx
      · rename_i hn
        split at hx
        · rename_i hlt
          cases hx
          have h1 : (M.sub.set (i - n0) (some a))[i - n0]? = some (some a) := by simp [hlt]
          have h2 := allSome_get h.hxs _ _ (hle.sub _ _ h1)
          have := h.hn0
          simp only [X.den]
          rw [h.henv, List.getD_eq_getElem?_getD, List.getElem?_append_right (by rw [List.length_take]; omega), List.length_take, Nat.min_eq_left h.hn0, List.getElem?_map, h2]
          rfl
        · cases hx
      · cases hx
  · split at hx
    · rename_i e
      simp only [Bool.and_eq_true, beq_iff_eq] at e
      obtain ⟨rfl, hcl⟩ := e
      exact X.closed_den (fun i hi => h.var_old hi) _ hcl
    · cases hx
theorem find_append {l l' : List (Nat × Nat)} {r : Nat} {q : Nat × Nat} (h : l.find? (fun q => q.1 == r) = some q) : (l ++ l').find? (fun q => q.1 == r) = some q := by
  rw [List.find?_append, h]; rfl
theorem addRen_find {M M' : MSt} {r s : Nat} (h : addRen M r s = some M') (hle : MLe M' Mf) : Mf.ren.find? (fun q => q.1 == r) = some (r, s) := by
  obtain ⟨l, e⟩ := hle.ren
  rw [e]
  refine find_append ?_
  unfold addRen at h
  split at h
  · rename_i q hq
    split at h
    · rename_i hs
      cases h
      have h1 := List.find?_some hq
      simp only [beq_iff_eq] at h1 hs
      rw [hq]
      obtain ⟨q1, q2⟩ := q
      simp only at h1 hs
      subst h1; subst hs; rfl
    · cases h
  · rename_i hq
    split at h
    · cases h
    · cases h
      simp only
      rw [List.find?_append, hq]
      simp
theorem Fit.keep (h : Fit P B ρ H m w n0 n Mf xs ρp H' m2 mp) : KeepsAv (avOf P m ρ B.fr H) w w (avOf P m ρ B.fr H') := keepsAv_froz h.frz.1
theorem FrozIn.mono {fr fr' : List Nat} (h : FrozIn H H' fr') (hs : ∀ r ∈ fr, r ∈ fr') : FrozIn H H' fr := ⟨h.1, fun r hr => h.2 r (hs r hr)⟩

theorem Fit.find (h : Fit P B ρ H m w n0 n Mf xs ρp H' m2 mp) {M M' : MSt} {r s : Nat} (hr : addRen M r s = some M') (hle : MLe M' Mf) : mp r = m2 s := h.mp r s (addRen_find hr hle)
theorem match_len : ∀ (p a : SV) {M M' : MSt}, matchSV P H n0 n p a M = some M' → ∀ {av : Av} {b off : Nat}, RepSM P w av mp ρp p b off → p.toL.length = a.toL.length := by
  intro p
  induction p with
  | nil => intro a M M' h av b off _; cases a <;> simp [matchSV] at h; rfl
  | cons p q _ ihq =>
    intro a M M' h av b off hr
    cases a <;> simp [matchSV] at h
    split at h
    · simp only [RepSM] at hr
      obtain ⟨_, _, _, _, hr⟩ := hr
      simp only [SV.toL, List.length_cons, ihq _ h hr]
    · cases h
  | _ => intro a M M' h av b off hr; simp [RepSM] at hr

def MatchOk (P : Program) (B : Base) (ρ : List D) (H : List SObj) (m : Pl) (w : World) (n0 n : Nat) (Mf : MSt) (ρp : List D) (H' : List SObj) (mp : Pl) (p : SV) : Prop :=
    (∀ (a : SV) {M M' : MSt}, matchSV P H n0 n p a M = some M' → MLe M' Mf → ∀ {v : Value}, RepS P w (avOf P m ρ B.fr H) m ρ a v → RepS P w (avOf P m ρ B.fr H') mp ρp p v) ∧
    (∀ (a : SV) {M M' : MSt}, matchSV P H n0 n p a M = some M' → MLe M' Mf → ∀ {vs : List Value}, RepSL P w (avOf P m ρ B.fr H) m ρ a vs → RepSL P w (avOf P m ρ B.fr H') mp ρp p vs) ∧
    (∀ (a : SV) {M M' : MSt}, matchSV P H n0 n p a M = some M' → MLe M' Mf → ∀ {b off : Nat}, RepSM P w (avOf P m ρ B.fr H) m ρ a b off → RepSM P w (avOf P m ρ B.fr H') mp ρp p b off)

theorem Fit.matchSV (h : Fit P B ρ H m w n0 n Mf xs ρp H' m2 mp) : ∀ (p : SV), MatchOk P B ρ H m w n0 n Mf ρp H' mp p := by
  have hk := h.keep
  intro p
  induction p with
  | nil =>
    refine ⟨fun a M M' hm hle v hr => ?_, fun a M M' hm hle v hr => ?_, fun a M M' hm hle b off hr => ?_⟩ <;> cases a <;> simp [RX.matchSV] at hm
    · simp [RepS] at hr
    · simpa [RepSL] using hr
    · simp [RepSM]
  | cons p q ihp ihq =>
    refine ⟨fun a M M' hm hle v hr => ?_, fun a M M' hm hle v hr => ?_, fun a M M' hm hle b off hr => ?_⟩ <;> cases a <;> simp [RX.matchSV] at hm
    · simp [RepS] at hr
    · split at hm
      · rename_i M1 h1
        simp only [RepSL] at hr ⊢
        obtain ⟨y, r, e, g1, g2⟩ := hr
        exact ⟨y, r, e, ihp.1 _ h1 ((matchSV_le _ _ hm).trans hle) g1, ihq.2.1 _ hm hle g2⟩
      · cases hm
    · split at hm
      · rename_i M1 h1
        simp only [RepSM] at hr ⊢
        obtain ⟨y, e, g0, g1, g2⟩ := hr
        exact ⟨y, e, (hk _ _ _ e g0).2, ihp.1 _ h1 ((matchSV_le _ _ hm).trans hle) g1, ihq.2.2 _ hm hle g2⟩
      · cases hm
  | agg ps ih =>
    refine ⟨fun a M M' hm hle v hr => ?_, fun a M M' hm hle v hr => ?_, fun a M M' hm hle b off hr => ?_⟩ <;> cases a <;> simp [RX.matchSV] at hm
    · split at hm
      · rename_i cs hcs
        split at hm
        · rename_i hag
          have hc := cellsOf_rep hcs hr
          simp only [RepS] at hr ⊢
          obtain ⟨_, vs, rfl, _⟩ := hr.ofAg hag
          exact ⟨_, rfl, ih.2.1 _ hm hle (repSL_ofL.2 hc)⟩
        · cases hm
      · cases hm
    · simp only [RepS] at hr ⊢
      obtain ⟨vs, rfl, hl⟩ := hr
      exact ⟨_, rfl, ih.2.1 _ hm hle hl⟩
    all_goals first | (simp [RepSL] at hr; done) | (simp [RepSM] at hr; done)
  | tup ps ih =>
    refine ⟨fun a M M' hm hle v hr => ?_, fun a M M' hm hle v hr => ?_, fun a M M' hm hle b off hr => ?_⟩ <;> cases a <;> simp [RX.matchSV] at hm
    · simp only [RepS] at hr ⊢
      obtain ⟨vs, rfl, hl⟩ := hr
      exact ⟨_, rfl, ih.2.1 _ hm hle hl⟩
    all_goals first | (simp [RepSL] at hr; done) | (simp [RepSM] at hr; done)
  | lits ps ih =>
    refine ⟨fun a M M' hm hle v hr => ?_, fun a M M' hm hle v hr => ?_, fun a M M' hm hle b off hr => ?_⟩ <;> cases a <;> simp [RX.matchSV] at hm
    · simp only [RepS] at hr ⊢
      obtain ⟨b, n', c, rfl, hn, hl⟩ := hr
      have := ih.2.2 _ hm hle hl
      exact ⟨b, n', c, rfl, by rw [hn, match_len _ _ hm this], this⟩
    all_goals first | (simp [RepSL] at hr; done) | (simp [RepSM] at hr; done)
  | clo f ps qs ihp ihq =>
    refine ⟨fun a M M' hm hle v hr => ?_, fun a M M' hm hle v hr => ?_, fun a M M' hm hle b off hr => ?_⟩ <;> cases a <;> simp [RX.matchSV] at hm
    · obtain ⟨rfl, hm⟩ := hm
      split at hm
      · rename_i M1 h1
        simp only [RepS] at hr ⊢
        obtain ⟨fs, cs, rfl, g1, g2⟩ := hr
        exact ⟨fs, cs, rfl, ihp.2.1 _ h1 ((matchSV_le _ _ hm).trans hle) g1, ihq.2.1 _ hm hle g2⟩
      · cases hm
    all_goals first | (simp [RepSL] at hr; done) | (simp [RepSM] at hr; done)
  | any =>
    refine ⟨fun a M M' hm hle v hr => (by simp [RepS]), fun a M M' hm hle v hr => ?_, fun a M M' hm hle b off hr => ?_⟩ <;> cases a <;> simp [RX.matchSV] at hm <;> first | (simp [RepSL] at hr; done) | (simp [RepSM] at hr; done)
  | x y t =>
    have key : ∀ (a : SV) {M M' : MSt}, RX.matchSV P H n0 n (.x y t) a M = some M' → matchData P H n0 y t a M = some M' := by
      intro a M M' hm
      cases a <;> simpa only [RX.matchSV] using hm
    refine ⟨fun a M M' hm hle v hr => ?_, fun a M M' hm hle v hr => ?_, fun a M M' hm hle b off hr => ?_⟩
    · have hm' := key a hm
      unfold matchData at hm'
      split at hm'
      · rename_i z f hz
        have he := h.matchX hm' hle
        have hl := (matchX_le hm').trans hle
        have := dataOf_rep (H' := H') h.sim hz hr (h.frz.mono (fun r hr => hl.frz r (List.mem_append_right _ hr)))
        simp only [RepS]
        rw [he]; exact this
      · cases hm'
    · have hm' := key a hm
      cases a <;> first | (simp [RepSL] at hr; done) | (simp [matchData, dataOf, dataCell] at hm'; done)
    · have hm' := key a hm
      cases a <;> first | (simp [RepSM] at hr; done) | (simp [matchData, dataOf, dataCell] at hm'; done)
  | own r =>
    refine ⟨fun a M M' hm hle v hr => ?_, fun a M M' hm hle v hr => ?_, fun a M M' hm hle b off hr => ?_⟩ <;> cases a <;> simp [RX.matchSV] at hm
    · have hf := h.find hm hle
      simp only [RepS] at hr ⊢
      obtain ⟨p, hp, e⟩ := hr
      exact ⟨p, by rw [hf]; exact h.le _ _ hp, e⟩
    · obtain ⟨M1, h1, rfl⟩ := hm
      have hl : MLe M1 { M1 with news := M1.news + 1 } := ⟨rfl, fun _ _ h => h, ⟨[], by simp⟩, fun _ h => h, Nat.le_succ _⟩
      have hf := h.find h1 (hl.trans hle)
      have hn : M.news < Mf.news := by
        have h2 := hle.news
        have h3 := (addRen_le h1).news
        simp only at h2
        omega
      simp only [RepS] at hr ⊢
      exact ⟨_, by rw [hf]; exact h.new _ hn, hr, _, _, _, hr⟩
    all_goals first | (simp [RepSL] at hr; done) | (simp [RepSM] at hr; done)
  | ptr o off =>
    refine ⟨fun a M M' hm hle v hr => ?_, fun a M M' hm hle v hr => ?_, fun a M M' hm hle b off hr => ?_⟩ <;> cases a <;> simp [RX.matchSV] at hm
    · obtain ⟨rfl, hm⟩ := hm
      have hf := h.find hm hle
      simp only [RepS] at hr ⊢
      obtain ⟨p, b, hp, e⟩ := hr
      exact ⟨p, b, by rw [hf]; exact h.le _ _ hp, e⟩
    all_goals first | (simp [RepSL] at hr; done) | (simp [RepSM] at hr; done)
  | mp o =>
    refine ⟨fun a M M' hm hle v hr => ?_, fun a M M' hm hle v hr => ?_, fun a M M' hm hle b off hr => ?_⟩ <;> cases a <;> simp [RX.matchSV] at hm
    · have hf := h.find hm hle
      simp only [RepS] at hr ⊢
      obtain ⟨p, hp, e⟩ := hr
      exact ⟨p, by rw [hf]; exact h.le _ _ hp, e⟩
    all_goals first | (simp [RepSL] at hr; done) | (simp [RepSM] at hr; done)
  | full y t =>
    refine ⟨fun a M M' hm hle v hr => ?_, fun a M M' hm hle v hr => ?_, fun a M M' hm hle b off hr => ?_⟩ <;> cases a <;> simp [RX.matchSV] at hm
    · have he := h.matchX hm.2 hle
      simp only [RepS] at hr ⊢
      rw [he]
      exact ⟨sameTy_rep (sameTy_symm hm.1) (hr.1.keeps hk), hr.2⟩
    all_goals first | (simp [RepSL] at hr; done) | (simp [RepSM] at hr; done)
  | iptr e y off =>
    refine ⟨fun a M M' hm hle v hr => ?_, fun a M M' hm hle v hr => ?_, fun a M M' hm hle b off hr => ?_⟩ <;> cases a <;> simp [RX.matchSV] at hm
    · obtain ⟨⟨rfl, rfl⟩, hm⟩ := hm
      have he := h.matchX hm hle
      simp only [RepS] at hr ⊢
      rw [he]
      obtain ⟨b, o, e, hr⟩ := hr
      exact ⟨b, o, e, hr.keeps hk⟩
    all_goals first | (simp [RepSL] at hr; done) | (simp [RepSM] at hr; done)
  | _ =>
    refine ⟨fun a M M' hm hle v hr => ?_, fun a M M' hm hle v hr => ?_, fun a M M' hm hle b off hr => ?_⟩ <;> cases a <;> simp [RX.matchSV] at hm <;> first | (simpa [RepS] using hr) | (simp [RepSL] at hr; done) | (simp [RepSM] at hr; done)
end
end Go.RX
namespace Go.RX

section
variable {P : Program} {B : Base} {ρ ρp : List D} {w : World} {m m2 mp : Pl} {H H' : List SObj} {n0 n : Nat} {Mf : MSt} {xs : List X} {pat : List SObj}

theorem matchList_le : ∀ {ps as : List SV} {M M' : MSt}, matchList P H n0 n ps as M = some M' → MLe M M'
  | [], [], M, M', h => by simp [matchList] at h; subst h; exact MLe.refl _
  | p :: ps, a :: as, M, M', h => by
    simp only [matchList] at h
    split at h
    · rename_i M1 h1; exact (matchSV_le _ _ h1).trans (matchList_le h)
    · cases h
  | [], _ :: _, _, _, h => by simp [matchList] at h
  | _ :: _, [], _, _, h => by simp [matchList] at h
theorem Fit.matchList (h : Fit P B ρ H m w n0 n Mf xs ρp H' m2 mp) : ∀ {ps as : List SV} {M M' : MSt}, matchList P H n0 n ps as M = some M' → MLe M' Mf → ∀ {vs : List Value}, RepSs P w (avOf P m ρ B.fr H) m ρ as vs → RepSs P w (avOf P m ρ B.fr H') mp ρp ps vs
  | [], [], M, M', _, _, [], _ => trivial
  | p :: ps, a :: as, M, M', hm, hle, v :: vs, hr => by
    simp only [RX.matchList] at hm
    split at hm
    · rename_i M1 h1
      exact ⟨(h.matchSV p).1 a h1 ((matchList_le hm).trans hle) hr.1, h.matchList hm hle hr.2⟩
    · cases hm
  | [], [], _, _, _, _, _ :: _, hr => hr.elim
  | _ :: _, _ :: _, _, _, _, _, [], hr => hr.elim
  | [], _ :: _, _, _, hm, _, _, _ => by simp [RX.matchList] at hm
  | _ :: _, [], _, _, hm, _, _, _ => by simp [RX.matchList] at hm

theorem matchObj_le {p : SObj} {s : Nat} {M M' : MSt} (h : matchObj P H n0 n p s M = some M') : MLe M M' := by
  unfold matchObj at h
  split at h
  · split at h
    · exact matchX_le h
    · cases h
  · split at h
    · exact matchSV_le _ _ h
    · exact matchSV_le _ _ h
    · exact matchSV_le _ _ h
    · split at h
      · rename_i M1 h1; exact (matchX_le h1).trans (matchX_le h)
      · cases h
    · split at h
      · exact matchX_le h
      · cases h
    · split at h
      · exact matchX_le h
      · cases h
    · cases h

/-- An object that is matched is what the pattern says. -/
theorem Fit.matchObj (h : Fit P B ρ H m w n0 n Mf xs ρp H' m2 mp) {p : SObj} {s : Nat} {M M' : MSt} (hm : matchObj P H n0 n p s M = some M') (hle : MLe M' Mf) (hnew : n ≤ s → m2 s = some ⟨none, .slice none 0 0⟩) :
    ObjOk P w (avOf P m ρ B.fr H') mp ρp (m2 s) p ∧ (n ≤ s ∧ (∃ e c wr, p = .row e c wr ∧ c.den ρp = .sl []) ∨ s < n ∧ hget H s ≠ .dead ∧ m2 s = m s ∧ (writable p → writable (hget H s) ∧ ((∃ e c wr c' wr', p = .row e c wr ∧ hget H s = .row e c' wr' ∧ c.den ρp = c'.den ρ ∧ (wr = true → wr' = true)) ∨ ((∀ off, region P ρp p off ↔ region P ρ (hget H s) off) ∧ ∀ e c wr, hget H s ≠ .row e c wr)))) := by
  have hk := h.keep
  unfold RX.matchObj at hm
  split at hm
  · rename_i hs
    split at hm
    · rename_i e c wr
      have he := h.matchX hm hle
      have hc : c.den ρp = .sl [] := by rw [he]; simp [X.den, D.aggL]
      refine ⟨?_, .inl ⟨hs, e, c, wr, rfl, hc⟩⟩
      rw [hnew hs]
      exact ⟨[], [], .slice none 0 0, rfl, hc, ⟨by simp, by simp⟩, World.ownsRow_nil w 0 e _, by simp, by simp only [rowTys, List.length_nil, List.replicate_zero, List.flatten_nil]; exact .nil⟩
    · cases hm
  · rename_i hs
    have hok := h.sim.ok s
    have old : hget H s ≠ .dead → m2 s = m s := by
      intro hl
      obtain ⟨q, hq⟩ := ObjOk.some hl hok
      rw [hq, h.le s q hq]
    split at hm
    · rename_i ps cs hob
      rw [hob] at hok ⊢
      rw [old (by rw [hob]; simp)]
      obtain ⟨b, vs, T, h1, h2, h3⟩ := hok
      exact ⟨⟨b, vs, T, h1, h2, (h.matchSV ps).2.1 _ hm hle h3⟩, .inr ⟨by omega, by simp, rfl, fun _ => ⟨trivial, .inr ⟨fun off => Iff.rfl, by simp⟩⟩⟩⟩
    · rename_i ps cs hob
      rw [hob] at hok ⊢
      rw [old (by rw [hob]; simp)]
      obtain ⟨b, vs, T, h1, h2, h3⟩ := hok
      exact ⟨⟨b, vs, T, _, h1, h2, (h.matchSV ps).2.1 _ hm hle h3⟩, .inr ⟨by omega, by simp, rfl, fun hw => hw.elim⟩⟩
    · rename_i ps cs hob
      rw [hob] at hok ⊢
      rw [old (by rw [hob]; simp)]
      obtain ⟨b, vs, T, fz, h1, h2, h3⟩ := hok
      exact ⟨⟨b, vs, T, fz, h1, h2, (h.matchSV ps).2.1 _ hm hle h3⟩, .inr ⟨by omega, by simp, rfl, fun hw => hw.elim⟩⟩
    · rename_i p q a b hob
      split at hm
      · rename_i M1 h1
        have e1 := h.matchX h1 ((matchX_le hm).trans hle)
        have e2 := h.matchX hm hle
        rw [hob] at hok ⊢
        rw [old (by rw [hob]; simp)]
        obtain ⟨r, l, k, g1, g2, g3, g4⟩ := hok
        exact ⟨⟨r, l, k, g1, by rw [e1]; exact g2, by rw [e2]; exact g3, g4⟩, .inr ⟨by omega, by simp, rfl, fun _ => ⟨trivial, .inr ⟨fun off => Iff.rfl, by simp⟩⟩⟩⟩
      · cases hm
    · rename_i kt vt p kt' vt' c hob
      split at hm
      · rename_i hc
        simp only [Bool.and_eq_true, beq_iff_eq] at hc
        obtain ⟨rfl, rfl⟩ := hc
        have e1 := h.matchX hm hle
        rw [hob] at hok ⊢
        rw [old (by rw [hob]; simp)]
        obtain ⟨r, es, clock, l, g1, g2, g3, g4⟩ := hok
        exact ⟨⟨r, es, clock, l, g1, g2, by rw [e1]; exact g3, g4.keeps hk⟩, .inr ⟨by omega, by simp, rfl, fun _ => ⟨trivial, .inr ⟨fun off => Iff.rfl, by simp⟩⟩⟩⟩
      · cases hm
    · rename_i e p wr e' c wr' hob
      split at hm
      · rename_i hc
        simp only [Bool.and_eq_true, beq_iff_eq] at hc
        obtain ⟨rfl, hwr⟩ := hc
        have e1 := h.matchX hm hle
        rw [hob] at hok ⊢
        rw [old (by rw [hob]; simp)]
        obtain ⟨es, xs, v, g1, g2, g3, g4, g5, g6⟩ := hok
        exact ⟨⟨es, xs, v, g1, by rw [e1]; exact g2, g3, g4, g5, g6.keeps hk⟩, .inr ⟨by omega, by simp, rfl, fun _ => ⟨trivial, .inl ⟨e, p, wr, c, wr', rfl, rfl, e1, fun hw => by subst hw; simpa using hwr⟩⟩⟩⟩
      · cases hm
    · cases hm
end
end Go.RX
namespace Go.RX

/-- Each object has one partner, and is one's partner. -/
def RenOk (l : List (Nat × Nat)) : Prop := (l.map (·.1)).Nodup ∧ (l.map (·.2)).Nodup

theorem addRen_ok {M M' : MSt} {r s : Nat} (h : addRen M r s = some M') (hr : RenOk M.ren) : RenOk M'.ren := by
  unfold addRen at h
  split at h
  · split at h
    · cases h; exact hr
    · cases h
  · rename_i hn
    split at h
    · cases h
    · rename_i ha
      cases h
      simp only [RenOk, List.map_append, List.map_cons, List.map_nil]
      rw [List.nodup_append, List.nodup_append]
      refine ⟨⟨hr.1, by simp, ?_⟩, ⟨hr.2, by simp, ?_⟩⟩
      · intro a hma b hb e
        simp only [List.mem_singleton] at hb
        subst hb; subst e
        obtain ⟨q, hq, e⟩ := List.mem_map.1 hma
        have := List.find?_eq_none.1 hn q hq
        simp [e] at this
      · intro a hma b hb e
        simp only [List.mem_singleton] at hb
        subst hb; subst e
        obtain ⟨q, hq, e⟩ := List.mem_map.1 hma
        apply ha
        rw [List.any_eq_true]
        exact ⟨q, hq, by simp [e]⟩

section
variable {P : Program} {H : List SObj} {n0 n : Nat}
theorem matchX_ren {p a : X} {M M' : MSt} (h : matchX n0 p a M = some M') : M'.ren = M.ren ∧ M'.news = M.news := by
  unfold matchX at h
  split at h
  · split at h
    · split at h
      · cases h; exact ⟨rfl, rfl⟩
      · cases h
    · split at h
      · split at h
        · cases h; exact ⟨rfl, rfl⟩
        · cases h
      · cases h
  · split at h
    · cases h; exact ⟨rfl, rfl⟩
    · cases h
theorem matchData_ren {p : X} {t : TypeId} {a : SV} {M M' : MSt} (h : matchData P H n0 p t a M = some M') : M'.ren = M.ren := by
  unfold matchData at h
  split at h
  · exact (matchX_ren h).1
  · cases h
theorem matchSV_ok : ∀ (p a : SV) {M M' : MSt}, matchSV P H n0 n p a M = some M' → RenOk M.ren → RenOk M'.ren := by
  intro p
  induction p with
  | any => intro a M M' h hr; cases a <;> simp [matchSV] at h <;> (subst h; exact hr)
  | x y t => intro a M M' h hr; cases a <;> (simp only [matchSV] at h; rw [matchData_ren h]; exact hr)
  | cons p q ihp ihq =>
    intro a M M' h hr
    cases a <;> simp [matchSV] at h
    split at h
    · rename_i M1 h1
      exact ihq _ h (ihp _ h1 hr)
    · cases h
  | agg ps ih =>
    intro a M M' h hr
    cases a <;> simp [matchSV] at h
    case agg cs => exact ih _ h hr
    case x a t =>
      split at h
      · split at h
        · exact ih _ h hr
        · cases h
      · cases h
  | tup ps ih =>
    intro a M M' h hr
    cases a <;> simp [matchSV] at h
    case tup cs => exact ih _ h hr
  | own r =>
    intro a M M' h hr
    cases a <;> simp [matchSV] at h
    case own s => exact addRen_ok h hr
    case nils =>
      obtain ⟨M1, h1, rfl⟩ := h
      have := addRen_ok h1 hr
      exact this
  | ptr o off => intro a M M' h hr; cases a <;> simp [matchSV] at h; exact addRen_ok h.2 hr
  | mp o => intro a M M' h hr; cases a <;> simp [matchSV] at h; exact addRen_ok h hr
  | full y t => intro a M M' h hr; cases a <;> simp [matchSV] at h; rw [(matchX_ren h.2).1]; exact hr
  | iptr e y off => intro a M M' h hr; cases a <;> simp [matchSV] at h; rw [(matchX_ren h.2).1]; exact hr
  | lits ps ih => intro a M M' h hr; cases a <;> simp [matchSV] at h; exact ih _ h hr
  | clo f ps qs ihp ihq =>
    intro a M M' h hr
    cases a <;> simp [matchSV] at h
    obtain ⟨_, h⟩ := h
    split at h
    · rename_i M1 h1
      exact ihq _ h (ihp _ h1 hr)
    · cases h
  | rptr e r i off => intro a M M' h; cases a <;> simp [matchSV] at h
  | lptr v => intro a M M' h; cases a <;> simp [matchSV] at h
  | _ => intro a M M' h hr; cases a <;> simp [matchSV] at h <;> (subst h; exact hr)
theorem matchList_ok : ∀ {ps as : List SV} {M M' : MSt}, matchList P H n0 n ps as M = some M' → RenOk M.ren → RenOk M'.ren
  | [], [], M, M', h, hr => by simp [matchList] at h; subst h; exact hr
  | p :: ps, a :: as, M, M', h, hr => by
    simp only [matchList] at h
    split at h
    · rename_i M1 h1; exact matchList_ok h (matchSV_ok _ _ h1 hr)
    · cases h
  | [], _ :: _, _, _, h, _ => by simp [matchList] at h
  | _ :: _, [], _, _, h, _ => by simp [matchList] at h
theorem matchObj_ok {p : SObj} {s : Nat} {M M' : MSt} (h : matchObj P H n0 n p s M = some M') (hr : RenOk M.ren) : RenOk M'.ren := by
  unfold matchObj at h
  split at h
  · split at h
    · rw [(matchX_ren h).1]; exact hr
    · cases h
  · split at h
    · exact matchSV_ok _ _ h hr
    · exact matchSV_ok _ _ h hr
    · exact matchSV_ok _ _ h hr
    · split at h
      · rename_i M1 h1; rw [(matchX_ren h).1, (matchX_ren h1).1]; exact hr
      · cases h
    · split at h
      · rw [(matchX_ren h).1]; exact hr
      · cases h
    · split at h
      · rw [(matchX_ren h).1]; exact hr
      · cases h
    · cases h

theorem matchObjs_spec {pat : List SObj} : ∀ (fuel k : Nat) {M Mf : MSt}, matchObjs P H n0 n pat fuel k M = some Mf → RenOk M.ren → MLe M Mf ∧ RenOk Mf.ren ∧
    ∀ i, k ≤ i → ∀ r s, Mf.ren[i]? = some (r, s) → ∃ M1 M2, matchObj P H n0 n (hget pat r) s M1 = some M2 ∧ MLe M2 Mf
  | 0, _, _, _, h, _ => by simp [matchObjs] at h
  | fuel + 1, k, M, Mf, h, hr => by
    simp only [matchObjs] at h
    split at h
    · rename_i hk
      cases h
      refine ⟨MLe.refl _, hr, fun i hi r s hrs => ?_⟩
      rw [List.getElem?_eq_none_iff] at hk
      rw [List.getElem?_eq_none (by omega)] at hrs
      cases hrs
    · rename_i r s hk
      split at h
      · rename_i M1 h1
        obtain ⟨g1, g2, g3⟩ := matchObjs_spec fuel (k + 1) h (matchObj_ok h1 hr)
        refine ⟨(matchObj_le h1).trans g1, g2, fun i hi r' s' hrs => ?_⟩
        by_cases e : i = k
        · subst e
          obtain ⟨l, e1⟩ := ((matchObj_le h1).trans g1).ren
          have : Mf.ren[i]? = some (r, s) := by
            rw [e1, List.getElem?_append_left (List.getElem?_eq_some_iff.1 hk).1]; exact hk
          rw [this] at hrs
          cases hrs
          exact ⟨_, _, h1, g1⟩
        · exact g3 i (by omega) r' s' hrs
      · cases h

/-- All that a match tells. -/
structure Matched (P : Program) (n0 nv : Nat) (ps as : List SV) (pat H : List SObj) (n : Nat) (ren : List (Nat × Nat)) (xs : List X) (M : MSt) : Prop where
  all : allSome M.sub = some xs
  len : xs.length = nv
  list : ∃ M0 M1, matchList P H n0 n ps as M0 = some M1 ∧ MLe M1 M
  obj : ∀ r s, (r, s) ∈ M.ren → ∃ M1 M2, matchObj P H n0 n (hget pat r) s M1 = some M2 ∧ MLe M2 M
  ok : RenOk M.ren
  ren : ∀ q ∈ ren, q ∈ M.ren
  lt : ∀ q ∈ M.ren, q.2 < n + M.news
  live : ∀ r, hget pat r ≠ .dead → ∃ s, (r, s) ∈ M.ren
  named : ∀ q ∈ M.ren, hget pat q.1 ≠ .dead
  free : ∀ q ∈ M.ren, ∀ e c, hget pat q.1 = .row e c true → q.2 ∉ M.frz

theorem matchAll_matched {nv : Nat} {ren : List (Nat × Nat)} {ps as : List SV} {pat : List SObj} {xs : List X} {M : MSt} (h : matchAll P n0 nv ren ps as pat H n = some (xs, M)) (hr : RenOk ren) :
    Matched P n0 nv ps as pat H n ren xs M := by
  unfold matchAll at h
  split at h
  · cases h
  rename_i M1 h1
  split at h
  · cases h
  rename_i M2 h2
  split at h
  · cases h
  rename_i ys h3
  split at h
  · rename_i h4
    cases h
    have hl := matchList_le h1
    obtain ⟨g1, g2, g3⟩ := matchObjs_spec 400 0 h2 (matchList_ok h1 hr)
    simp only [matchedOk, Bool.and_eq_true, List.all_eq_true, decide_eq_true_eq] at h4
    obtain ⟨⟨k1, k2⟩, k3⟩ := h4
    refine ⟨h3, ?_, ⟨_, _, h1, g1⟩, fun r s hm => ?_, g2, fun q hq => ?_, k1, fun r hlr => ?_, fun q hq e => ?_, fun q hq e c he => ?_⟩
    · rw [allSome_len h3, ← (hl.trans g1).len]; simp
    · obtain ⟨i, hi⟩ := List.getElem?_of_mem hm
      exact g3 i (Nat.zero_le _) r s hi
    · obtain ⟨l, e⟩ := (hl.trans g1).ren
      rw [e]; exact List.mem_append_left _ hq
    · have hlt : r < pat.length := by
        by_cases hlt : r < pat.length
        · exact hlt
        · exact (hlr (hget_none (by omega))).elim
      have := k2 r (List.mem_range.2 hlt)
      split at this
      · rename_i e; exact (hlr e).elim
      · rw [List.any_eq_true] at this
        obtain ⟨q, hq, e⟩ := this
        simp only [beq_iff_eq] at e
        exact ⟨q.2, by rw [← e]; exact hq⟩
    · have := k3 q hq
      rw [e] at this
      simp at this
    · have := k3 q hq
      rw [he] at this
      simpa using this
  · cases h

theorem find_of_mem {l : List (Nat × Nat)} (h : RenOk l) {r s : Nat} (hm : (r, s) ∈ l) : l.find? (fun q => q.1 == r) = some (r, s) := by
  induction l with
  | nil => simp at hm
  | cons q l ih =>
    have h1 := h.1
    have h2 := h.2
    simp only [List.map_cons, List.nodup_cons] at h1 h2
    rw [List.find?_cons]
    rcases List.mem_cons.1 hm with e | hm
    · subst e; simp
    · have : (q.1 == r) = false := by
        simp only [beq_eq_false_iff_ne]
        rintro rfl
        exact h1.1 (List.mem_map.2 ⟨_, hm, rfl⟩)
      rw [this]
      exact ih ⟨h1.2, h2.2⟩ hm
theorem mem_of_find {l : List (Nat × Nat)} {r : Nat} {q : Nat × Nat} (h : l.find? (fun q => q.1 == r) = some q) : q ∈ l ∧ q.1 = r :=
  ⟨List.mem_of_find?_eq_some h, by simpa using List.find?_some h⟩
theorem ren_inj {l : List (Nat × Nat)} (h : RenOk l) {r r' s : Nat} (hm : (r, s) ∈ l) (hm' : (r', s) ∈ l) : r = r' := by
  induction l with
  | nil => simp at hm
  | cons q l ih =>
    have h1 := h.1
    have h2 := h.2
    simp only [List.map_cons, List.nodup_cons] at h1 h2
    rcases List.mem_cons.1 hm with e | k <;> rcases List.mem_cons.1 hm' with e' | k'
    · rw [← e] at e'; cases e'; rfl
    · subst e; exact (h2.1 (List.mem_map.2 ⟨_, k', rfl⟩)).elim
    · subst e'; exact (h2.1 (List.mem_map.2 ⟨_, k, rfl⟩)).elim
    · exact ih ⟨h1.2, h2.2⟩ k k'
theorem ren_fun {l : List (Nat × Nat)} (h : RenOk l) {r s s' : Nat} (hm : (r, s) ∈ l) (hm' : (r, s') ∈ l) : s = s' := by
  have h1 := find_of_mem h hm
  have h2 := find_of_mem h hm'
  rw [h1] at h2; cases h2; rfl
end

section
variable {P : Program} {B : Base} {ρ ρp : List D} {w : World} {m mp : Pl} {H Hp : List SObj} {g : Nat → Nat}

/-- the place of a slice that is nil -/
def nilPlace : Place := ⟨none, .slice none 0 0⟩

/-- Less is known, under other numbers. -/
theorem Sim.weaken (h : Sim P B ρ H m w)
    (hl : ∀ r, hget Hp r ≠ .dead → mp r = some nilPlace ∨
      (hget H (g r) ≠ .dead ∧ mp r = m (g r) ∧ (writable (hget Hp r) → writable (hget H (g r)) ∧ ∀ off, region P ρp (hget Hp r) off → region P ρ (hget H (g r)) off)))
    (hok : ∀ r, hget Hp r ≠ .dead → ObjOk P w (avOf P m ρ B.fr H) mp ρp (mp r) (hget Hp r))
    (hinj : ∀ r r', hget Hp r ≠ .dead → hget Hp r' ≠ .dead → mp r ≠ some nilPlace → mp r' ≠ some nilPlace → g r = g r' → r = r') :
    Sim P B ρp Hp mp w ∧ KeepsAv (avOf P m ρ B.fr H) w w (avOf P mp ρp B.fr Hp) := by
  have hav : ∀ b off, avOf P mp ρp B.fr Hp b off → avOf P m ρ B.fr H b off := by
    rintro b off (hF | ⟨r, p, h1, h2, h3⟩)
    · exact .inl hF
    · rcases hl r (region_live h3) with e | ⟨_, e, hw⟩
      · rw [e] at h1; cases h1; cases h2
      · exact .inr ⟨g r, p, by rw [← e]; exact h1, h2, (hw (region_writable h3)).2 off h3⟩
  have hk : KeepsAv (avOf P m ρ B.fr H) w w (avOf P mp ρp B.fr Hp) := fun b off v hv ha => ⟨hv, fun h' => ha (hav b off h')⟩
  have real : ∀ r p b, hget Hp r ≠ .dead → mp r = some p → p.block = some b → mp r ≠ some nilPlace ∧ hget H (g r) ≠ .dead ∧ m (g r) = some p ∧ (writable (hget Hp r) → writable (hget H (g r))) := by
    intro r p b hlr hp hb
    rcases hl r hlr with e | ⟨h1, e, hw⟩
    · rw [e] at hp; cases hp; cases hb
    · refine ⟨fun e' => ?_, h1, by rw [← e]; exact hp, fun hw' => (hw hw').1⟩
      rw [hp] at e'; cases e'; cases hb
  refine ⟨⟨fun r => ?_, fun r r' p p' b hlr hlr' hp hp' hb hb' => ?_, fun r p b hw hp hb => ?_, h.ext, h.keep.trans hk, fun r p b off hw hp hb => ?_, h.old⟩, hk⟩
  · by_cases hd : hget Hp r = .dead
    · rw [hd]; trivial
    · exact ObjOk.keeps hk (Pl.le_refl mp) (fun _ _ _ _ => rfl) (hok r hd)
  · obtain ⟨a1, a2, a3, _⟩ := real r p b hlr hp hb
    obtain ⟨b1, b2, b3, _⟩ := real r' p' b hlr' hp' hb'
    exact hinj r r' hlr hlr' a1 b1 (h.inj _ _ p p' b a2 b2 a3 b3 hb hb')
  · obtain ⟨_, a2, a3, a4⟩ := real r p b (writable_live hw) hp hb
    exact h.base (g r) p b (a4 hw) a3 hb
  · obtain ⟨_, a2, a3, a4⟩ := real r p b (writable_live hw) hp hb
    exact h.apart (g r) p b off (a4 hw) a3 hb
end
end Go.RX
namespace Go.RX

/-- slices that are nil are rows without a block -/
def m2Of (m : Pl) (n news : Nat) : Pl := fun o => if n ≤ o ∧ o < n + news then some nilPlace else m o
def mpOf (m2 : Pl) (ren : List (Nat × Nat)) : Pl := fun r => (ren.find? (fun q => q.1 == r)).bind fun q => m2 q.2

section
variable {P : Program} {B : Base} {ρ : List D} {w : World} {m : Pl} {H pat : List SObj} {n0 nv n : Nat} {ps as : List SV} {ren : List (Nat × Nat)} {xs : List X} {M : MSt}

theorem m2Of_le {news : Nat} (hf : ∀ o, n ≤ o → o < n + news → m o = none) : Pl.le m (m2Of m n news) := by
  intro o p h
  unfold m2Of
  split
  · rename_i hh; rw [hf o hh.1 hh.2] at h; cases h
  · exact h

theorem Matched.fit (hM : Matched P n0 nv ps as pat H n ren xs M) (h : Sim P B ρ H m w) (hn0 : n0 ≤ ρ.length) (hf : ∀ o, n ≤ o → o < n + M.news → m o = none) {H' : List SObj} (hfr : FrozIn H H' M.frz) :
    Fit P B ρ H m w n0 n M xs (ρ.take n0 ++ xs.map (·.den ρ)) H' (m2Of m n M.news) (mpOf (m2Of m n M.news) M.ren) :=
  ⟨h, hM.all, hn0, rfl, hfr, m2Of_le hf, fun k hk => by unfold m2Of; rw [if_pos (by omega)]; rfl, fun r s hrs => by unfold mpOf; rw [hrs]; rfl⟩

theorem Matched.mp (hM : Matched P n0 nv ps as pat H n ren xs M) {m2 : Pl} {r s : Nat} (h : (r, s) ∈ M.ren) : mpOf m2 M.ren r = m2 s := by
  unfold mpOf; rw [find_of_mem hM.ok h]; rfl
theorem mpOf_none {m2 : Pl} {l : List (Nat × Nat)} {r : Nat} (h : ∀ s, (r, s) ∉ l) : mpOf m2 l r = none := by
  unfold mpOf
  cases hq : l.find? (fun q => q.1 == r) with
  | none => rfl
  | some q =>
    obtain ⟨h1, h2⟩ := mem_of_find hq
    exact (h q.2 (by rw [← h2]; exact h1)).elim

theorem Matched.objs (hM : Matched P n0 nv ps as pat H n ren xs M) (h : Sim P B ρ H m w) (hn0 : n0 ≤ ρ.length) (hf : ∀ o, n ≤ o → o < n + M.news → m o = none) {H' : List SObj} (hfr : FrozIn H H' M.frz) {r s : Nat} (hrs : (r, s) ∈ M.ren) :
    ObjOk P w (avOf P m ρ B.fr H') (mpOf (m2Of m n M.news) M.ren) (ρ.take n0 ++ xs.map (·.den ρ)) (m2Of m n M.news s) (hget pat r) ∧
      (n ≤ s ∧ (∃ e c wr, hget pat r = .row e c wr ∧ c.den (ρ.take n0 ++ xs.map (·.den ρ)) = .sl []) ∨ s < n ∧ hget H s ≠ .dead ∧ m2Of m n M.news s = m s ∧ (writable (hget pat r) → writable (hget H s) ∧
        ((∃ e c wr c' wr', hget pat r = .row e c wr ∧ hget H s = .row e c' wr' ∧ c.den (ρ.take n0 ++ xs.map (·.den ρ)) = c'.den ρ ∧ (wr = true → wr' = true)) ∨
          ((∀ off, region P (ρ.take n0 ++ xs.map (·.den ρ)) (hget pat r) off ↔ region P ρ (hget H s) off) ∧ ∀ e c wr, hget H s ≠ .row e c wr)))) := by
  obtain ⟨M1, M2, h1, h2⟩ := hM.obj r s hrs
  exact (hM.fit h hn0 hf hfr).matchObj h1 h2 (fun hs => by unfold m2Of; rw [if_pos ⟨hs, hM.lt _ hrs⟩]; rfl)

theorem RepSs.keeps' {w' : World} {av av' : Av} {m' : Pl} (hk : KeepsAv av w w' av') (hm : Pl.le m m') : ∀ {ss : List SV} {vs : List Value}, RepSs P w av m ρ ss vs → RepSs P w' av' m' ρ ss vs
  | [], [], _ => trivial
  | _ :: _, _ :: _, h => ⟨h.1.keeps hk hm _, h.2.keeps' hk hm⟩
  | [], _ :: _, h => h.elim
  | _ :: _, [], h => h.elim

theorem frost_keys (H : List SObj) : ∀ (l : List Nat) {r : Nat}, r ∉ l → hget (hsets H (frost H l)) r = hget H r := by
  intro l r hr
  refine hget_hsets_out _ _ _ fun q hq e => hr ?_
  rw [← e]; exact (frost_ids (H := H) l q hq).1

/-- A match carries what is known over. -/
theorem Matched.join (hM : Matched P n0 nv ps as pat H n ren xs M) (h : Sim P B ρ H m w) (hn0 : n0 ≤ ρ.length) (hf : ∀ o, n ≤ o → o < n + M.news → m o = none) :
    ∃ mp, Sim P B (ρ.take n0 ++ xs.map (·.den ρ)) pat mp w ∧
      (∀ vs, RepSs P w (avOf P m ρ B.fr H) m ρ as vs → RepSs P w (avOf P mp (ρ.take n0 ++ xs.map (·.den ρ)) B.fr pat) mp (ρ.take n0 ++ xs.map (·.den ρ)) ps vs) ∧
      (∀ r, hget pat r = .dead → mp r = none) ∧ (∀ q ∈ ren, q.2 < n → mp q.1 = m q.2) := by
  let H' := hsets H (frost H M.frz)
  let m2 := m2Of m n M.news
  let mp := mpOf m2 M.ren
  let ρp := ρ.take n0 ++ xs.map (·.den ρ)
  have hfr : FrozIn H H' M.frz := FrozIn.frost H M.frz
  have hfit := hM.fit h hn0 hf hfr
  have hS : Sim P B ρ H' m w := h.froz hfr.1
  let g := renOf M.ren
  have hg : ∀ r s, (r, s) ∈ M.ren → g r = s := fun r s hrs => by show renOf M.ren r = s; unfold renOf; rw [find_of_mem hM.ok hrs]
  obtain ⟨hsim, hk⟩ := Sim.weaken (H := H') (Hp := pat) (mp := mp) (ρp := ρp) (g := g) hS (fun r hr => by
    obtain ⟨s, hrs⟩ := hM.live r hr
    have hmp : mp r = m2 s := hM.mp hrs
    obtain ⟨_, hc⟩ := hM.objs h hn0 hf hfr hrs
    rcases hc with ⟨hs, _⟩ | ⟨hs, hl, hms, hw⟩
    · left
      rw [hmp]
      show m2Of m n M.news s = _
      unfold m2Of; rw [if_pos ⟨hs, hM.lt _ hrs⟩]
    · right
      rw [hg r s hrs]
      refine ⟨(hfr.1.live s).2 hl, by rw [hmp]; exact hms, fun hwr => ⟨(hfr.1.writable s).2 (hw hwr).1, fun off hoff => ?_⟩⟩
      rcases (hw hwr).2 with ⟨e, c, wr, c', wr', e1, e2, e3, e4⟩ | ⟨hreg, hnr⟩
      · rw [e1] at hoff
        cases wr with
        | true =>
          have hx : hget H' s = hget H s := frost_keys H M.frz (hM.free _ hrs e c e1)
          rw [hx, e2, e4 rfl]; trivial
        | false =>
          rcases hfr.1 s with hx | ⟨e', c'', wr'', hx1, hx2⟩
          · rw [hx, e2]
            cases wr' with
            | true => trivial
            | false => simp only [region] at hoff ⊢; rw [← e3]; exact hoff
          · rw [hx2]
            rw [hx1] at e2; cases e2
            simp only [region] at hoff ⊢; rw [← e3]; exact hoff
      · rcases hfr.1 s with hx | ⟨e', c'', wr'', hx1, hx2⟩
        · rw [hx]; exact (hreg off).1 hoff
        · exact (hnr _ _ _ hx1).elim) (fun r hr => by
    obtain ⟨s, hrs⟩ := hM.live r hr
    have hmp : mp r = m2 s := hM.mp hrs
    rw [hmp]
    exact (hM.objs h hn0 hf hfr hrs).1) (fun r r' hr hr' hn hn' e => by
    obtain ⟨s, hrs⟩ := hM.live r hr
    obtain ⟨s', hrs'⟩ := hM.live r' hr'
    rw [hg r s hrs, hg r' s' hrs'] at e
    subst e
    exact ren_inj hM.ok hrs hrs')
  refine ⟨mp, hsim, fun vs hv => ?_, fun r hr => mpOf_none fun s hrs => ?_, fun q hq hlt => ?_⟩
  · obtain ⟨M0, M1, h1, h2⟩ := hM.list
    exact (hfit.matchList h1 h2 hv).keeps' hk (Pl.le_refl _)
  · exact hM.named _ hrs hr
  · have := hM.mp (m2 := m2) (hM.ren q hq)
    show mpOf m2 M.ren q.1 = _
    rw [this]
    show m2Of m n M.news q.2 = _
    unfold m2Of
    rw [if_neg (by omega)]
end
end Go.RX
